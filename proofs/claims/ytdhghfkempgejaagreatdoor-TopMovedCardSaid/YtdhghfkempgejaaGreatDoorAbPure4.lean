/- The abstract machine, 7: one step of an operation that looks at no memory. -/
import Derived.Test.YtdhghfkempgejaaGreatDoorAbPure3
namespace Go.Ab
section
variable {R : Type} {P : Program}

/-- The value that the operation gives, whatever memory holds. -/
def PureOp (P : Program) (op : Op) (ty : TypeId) (E : Operand → AV) (v : AV) : Prop :=
  ∀ (ρ : Ren) (e : Operand → Value) (w : World), (∀ x, VR ρ (E x) (e x)) → ∃ v', VR ρ v v' ∧ ∀ o : Oper, o.op = op → o.type = ty → (execOp e o).run P w = .ok (.value v') w

noncomputable def pickK (c a b : AV) (K : AV → Option R) : Option R :=
  match c with
  | .bool c => match a with
    | .int k x => match b with
      | .int k' y => br (kEq k k') (K (.int k (br c x y))) none
      | _ => br c (K a) (K b)
    | .bool x => match b with
      | .bool y => K (.bool (br c x y))
      | _ => br c (K a) (K b)
    | _ => br c (K a) (K b)
  | _ => none

noncomputable def nilK (x : AV) (K : AV → Option R) : Option R :=
  match x with
  | .ptr o => o.bind fun a => K (.ptr (some a))
  | .fn (.func f) a c => K (.fn (.func f) a c)
  | _ => none

noncomputable def unK (op : UnOp) (x : AV) (K : AV → Option R) : Option R :=
  match op with
  | .neg => match x with
    | .int k n => bindI (wr k (0 - n)) fun n => K (.int k n)
    | _ => none
  | .xor => match x with
    | .int k n => bindI (xorI k (if k.signed then -1 else k.max) n) fun n => K (.int k n)
    | _ => none
  | .not => match x with
    | .bool b => K (.bool (notB b))
    | _ => none
  | _ => none

noncomputable def convK (P : Program) (dst : TypeId) (src : TypeId) (x : AV) (K : AV → Option R) : Option R :=
  match x with
  | .int _ n => match P.underlying src with
    | some _ => match P.underlying dst with
      | some (.int k) => bindI (wr k n) fun n => K (.int k n)
      | _ => none
    | _ => none
  | .str s => match P.underlying src with
    | some .string => match P.underlying dst with
      | some .string => K (.str s)
      | _ => none
    | _ => none
  | _ => none

def fieldAt (P : Program) (s : TypeId) (i : Nat) : Option Field :=
  match P.underlying s with
  | some (.struct fs) => fs[i]?
  | _ => none
def fieldOff (P : Program) (s : TypeId) (i : Nat) : Option Nat :=
  match fieldAt P s i with
  | some f => match P.info? f.type with
    | some inf => if inf.size = 0 then none else some f.offset
    | none => none
  | none => none
noncomputable def fieldAddrK (P : Program) (s : TypeId) (i : Nat) (x : AV) (K : AV → Option R) : Option R :=
  match fieldOff P s i with
  | some off => match x with
    | .ptr o => o.bind fun a => K (.ptr (some ⟨a.b, a.g, Nat.add a.o off⟩))
    | _ => none
  | none => none
noncomputable def fieldK (P : Program) (s : TypeId) (i : Nat) (x : AV) (K : AV → Option R) : Option R :=
  match fieldAt P s i with
  | some f => match tyOf P f.type with
    | .other => none
    | _ => match x with
      | .agg l => partK P f.type l f.offset K
      | _ => none
  | none => none

def elemSz (P : Program) (e : TypeId) : Option Nat :=
  match P.info? e with
  | some i => some i.size
  | none => none
noncomputable def idxAddrK (P : Program) (t : TypeId) (x i : AV) (K : AV → Option R) : Option R :=
  match P.underlying t with
  | some (.slice e) => match elemSz P e with
    | some z => match x with
      | .sl s => match i with
        | .int _ n => (idxN n s.n).bind fun m => s.a.bind fun a => K (.ptr (some ⟨a.b, a.g, Nat.add a.o (Nat.mul m z)⟩))
        | _ => none
      | _ => none
    | none => none
  | some (.array len e) => match elemSz P e with
    | some z => match x with
      | .ptr o => o.bind fun a => match i with
        | .int _ n => (idxN n len).bind fun m => K (.ptr (some ⟨a.b, a.g, Nat.add a.o (Nat.mul m z)⟩))
        | _ => none
      | _ => none
    | none => none
  | _ => none

noncomputable def strAt (s : ByteArray) (i : Int) : Option Int := (natI i).bind fun m => (s[m]?).map fun b => (b.toNat : Int)
noncomputable def indexK (P : Program) (t : TypeId) (x i : AV) (K : AV → Option R) : Option R :=
  match i with
  | .int _ n => match x with
    | .agg l => match P.underlying t with
      | some (.array len e) => match tyOf P e with
        | .other => none
        | _ => match elemSz P e with
          | some z => (idxN n len).bind fun m => partK P e l (Nat.mul m z) K
          | none => none
      | _ => none
    | .str s => match P.underlying t with
      | some .string => (strAt s n).bind fun b => K (.int .u8 b)
      | _ => none
    | _ => none
  | _ => none

noncomputable def extractK (P : Program) (ty : TypeId) (x : AV) (i : Nat) (K : AV → Option R) : Option R :=
  match x with
  | .tuple l => (nthL l i).bind fun v => castK (tyOf P ty) v K
  | _ => none

noncomputable def moveA (s : Sl) (l m z : Nat) : Option AA := br (Nat.beq m l) s.a (s.a.map fun a => ⟨a.b, a.g, Nat.add a.o (Nat.mul l z)⟩)
noncomputable def cutAt (s : Sl) (z l h : Nat) (mx : Option Int) : Option Sl :=
  br (Nat.ble l h)
    (match mx with
     | some i => (natI i).bind fun m => br (Nat.ble h m) (br (Nat.ble m (s.c.low s.n)) (some ⟨moveA s l m z, Nat.sub h l, .known (Nat.sub m l)⟩) none) none
     | none => match s.c with
       | .known c => br (Nat.ble h c) (some ⟨moveA s l c z, Nat.sub h l, .known (Nat.sub c l)⟩) none
       | .unk z' => br (Nat.ble h s.n) (br (Nat.beq z z') (some ⟨s.a.map fun a => ⟨a.b, a.g, Nat.add a.o (Nat.mul l z)⟩, Nat.sub h l, .unk z'⟩) none) none) none
noncomputable def bound (x : Option Int) (d : Nat) : Option Nat :=
  match x with
  | some i => natI i
  | none => some d
def intOf? : Option AV → Option (Option Int)
  | none => some none
  | some (.int _ n) => some (some n)
  | some _ => none
/-- A cut of a slice; with a third bound there is a second one. -/
noncomputable def sliceSl (s : Sl) (z : Nat) (lo hi mx : Option Int) : Option Sl :=
  (bound lo 0).bind fun l => (bound hi s.n).bind fun h => cutAt s z l h mx
noncomputable def sliceStr (s : ByteArray) (lo hi : Option Int) : Option ByteArray :=
  (bound lo 0).bind fun l => (bound hi s.size).bind fun h => br (Nat.ble l h) (br (Nat.ble h s.size) (some (s.extract l h)) none) none
noncomputable def sliceK (P : Program) (t : TypeId) (x : AV) (lo hi mx : Option AV) (K : AV → Option R) : Option R :=
  match intOf? lo with
  | some lo => match intOf? hi with
    | some hi => match intOf? mx with
      | some mx => match P.underlying t with
        | some (.slice e) => match elemSz P e with
          | some z => match x with
            | .sl s => match hi, mx with
              | none, some _ => none
              | _, _ => (sliceSl s z lo hi mx).bind fun s' => K (.sl s')
            | _ => none
          | none => none
        | some .string => match x with
          | .str s => match mx with
            | none => (sliceStr s lo hi).bind fun s' => K (.str s')
            | _ => none
          | _ => none
        | some (.array n e) => match elemSz P e with
          | some z => match x with
            | .ptr o => match mx with
              | none => o.bind fun a => (sliceSl ⟨some a, n, .known n⟩ z lo hi none).bind fun s' => K (.sl s')
              | _ => none
            | _ => none
          | none => none
        | _ => none
      | none => none
    | none => none
  | none => none
end
end Go.Ab
