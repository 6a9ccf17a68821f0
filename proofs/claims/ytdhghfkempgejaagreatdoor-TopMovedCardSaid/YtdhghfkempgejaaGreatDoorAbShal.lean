/- The abstract machine, 28: helpers of the printed functions. -/
import Derived.Test.YtdhghfkempgejaaGreatDoorAbDraw6
import Derived.Test.YtdhghfkempgejaaGreatDoorAbCall
namespace Go.Ab
/-- A part of a code, by its way. -/
def sub : List Nat → Code → Code
  | [], c => c
  | 0 :: l, .seq a _ => sub l a
  | _ :: l, .seq _ b => sub l b
  | 0 :: l, .cond _ a _ => sub l a
  | _ :: l, .cond _ _ b => sub l b
  | _ :: l, .block _ c => sub l c
  | _ :: l, .loop c => sub l c
  | _ :: l, .scope c => sub l c
  | _, c => c
def theBody (f : Func) : Code := f.body.getD .skip
section
variable {R : Type}
abbrev Ev (R : Type) := Code → St → (St → Option R) → (Nat → St → Option R) → (St → Option R) → Option R
abbrev RV := AV × Heap
noncomputable def thenC (pl : Plan) (ev : Ev R) (b : Code) (kn : St → Option R) (ke : Nat → St → Option R) (kr : St → Option R) : St → Option R := fun s =>
  match firstReg b with
  | some i => match pl.cuts i with
    | some l => ev b (keepS l s) kn ke kr
    | none => ev b s kn ke kr
  | none => ev b s kn ke kr
noncomputable def blockK (id : Nat) (kn : St → Option R) (ke : Nat → St → Option R) : Nat → St → Option R := fun i s => br (Nat.beq i id) (kn s) (ke i s)
noncomputable def rangeM (H : Heap) (o : Option Nat) (k : AA → Heap → Option R) : Option R :=
  match o with
  | none => k ⟨H.size, 0, 0⟩ (H.push (.iter none 0 [] 0))
  | some b => (H.mapAt b).bind fun p => k ⟨H.size, 0, 0⟩ (H.push (.iter (some b) p.2 [] p.2))
noncomputable def nextS (H : Heap) (a : AA) (k1 : Int → Int → Heap → Option R) (k0 : Option R) : Option R :=
  br (Nat.beq a.o 0) (br (Nat.beq a.g 0) (match H.get a.b with
      | .siter s pos => br (Nat.blt pos s.size) ((strAt s (Int.ofNat pos)).bind fun c => br (ltI c 128) (k1 (Int.ofNat pos) c (H.put a.b (.siter s (Nat.succ pos)))) none) k0
      | _ => none) none) none
noncomputable def entryS (H : Heap) (a : AA) (k : ME → Option R) : Option R :=
  br (Nat.beq a.o 0) (br (Nat.beq a.g 0) (match H.get a.b with
      | .iter m _ seen last => m.bind fun b => (lastN seen).bind fun n => (H.mapAt b).bind fun p => br (Nat.beq p.2 last) ((findB p.1 n).bind fun e => k e) none
      | _ => none) none) none
noncomputable def isNil (l : List AV) (x : Option R) : Option R :=
  match l with
  | [] => x
  | _ => none
/-- The cells of a slice that is built with parts that are structs or arrays. -/
noncomputable def buildData (P : Program) (e : TypeId) (n : Nat) (parts : List (Nat × AV)) : Option (List AV) :=
  match P.info? e with
  | some i => if n * i.size = 0 then fillL (fun j => some (j * i.size, i.size)) [] parts
      else (zeroL P e).bind fun z => br (Nat.beq z.length i.size) (fillL (fun j => some (j * i.size, i.size)) (repL z n) parts) none
  | none => none
def theOps : Code → Array Oper
  | .region _ ops _ => ops
  | _ => #[]
noncomputable def theOp (c : Code) (i : Nat) : Oper :=
  match nthL (theOps c).toList i with
  | some o => o
  | none => default
noncomputable def callF (f : AV) (k : FuncId → List AV → List AV → Option R) : Option R :=
  match f with
  | .fn (.func g) first cap => k g first cap
  | _ => none
end
end Go.Ab
