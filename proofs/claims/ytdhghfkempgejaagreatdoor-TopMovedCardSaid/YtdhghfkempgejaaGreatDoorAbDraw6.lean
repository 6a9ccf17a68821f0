/- The abstract machine, 27: drawn regions, as they are evaluated. -/
import Derived.Test.YtdhghfkempgejaaGreatDoorAbDraw5
import Derived.Test.YtdhghfkempgejaaGreatDoorAbNat
namespace Go.Ab
section
variable {R : Type} (P : Program)
noncomputable def drawC (gl : Gl) (n : Nat) (F : FTab) (ops : Array Oper) (pres : List Nat) (ord : List Nat) : List (Nat × Heap) → List (Nat × (Heap → Bool)) → St → (St → Option R) → Option R :=
  List.rec (fun _ _ s K => K s) (fun i _ ih hist pend s K => match nthL ops.toList i with
    | none => none
    | some o => guardK ops o s
      (fun s => stepK P F.oracle o.op o.type (evR gl s.t (o.looksAt ops)) s.h fun v H' =>
        br (chkB P F pres i o (evR gl s.t (o.looksAt ops)) v H' hist pend)
          (putK n s o.dst v H' fun s' => ih (histB P i o s.h hist) (pendB P F i o (evR gl s.t (o.looksAt ops)) v pend) s' K) none)
      (fun s => putK n s o.dst (.tuple []) s.h fun s' => ih hist pend s' K)) ord
theorem drawC_eq (gl : Gl) (n : Nat) (F : FTab) (ops : Array Oper) (pres : List Nat) : ∀ (ord : List Nat) (hist : List (Nat × Heap)) (pend : List (Nat × (Heap → Bool))) (s : St) (K : St → Option R), drawC P gl n F ops pres ord hist pend s K = drawS P gl n F ops pres ord hist pend s K
  | [], _, _, _, _ => rfl
  | i :: ord, hist, pend, s, K => by
    have ih : drawC (R := R) P gl n F ops pres ord = drawS P gl n F ops pres ord := by
      funext hist pend s K; exact drawC_eq gl n F ops pres ord hist pend s K
    show (match nthL ops.toList i with
      | none => none
      | some o => guardK ops o s
        (fun s => stepK P F.oracle o.op o.type (evR gl s.t (o.looksAt ops)) s.h fun v H' =>
          br (chkB P F pres i o (evR gl s.t (o.looksAt ops)) v H' hist pend)
            (putK n s o.dst v H' fun s' => drawC P gl n F ops pres ord (histB P i o s.h hist) (pendB P F i o (evR gl s.t (o.looksAt ops)) v pend) s' K) none)
        (fun s => putK n s o.dst (.tuple []) s.h fun s' => drawC P gl n F ops pres ord hist pend s' K)) =
      (match nthL ops.toList i with
      | none => none
      | some o => guardK ops o s
        (fun s => (stepK P F.oracle o.op o.type (evR gl s.t (o.looksAt ops)) s.h pairK).bind fun p =>
          br (chkB P F pres i o (evR gl s.t (o.looksAt ops)) p.1 p.2 hist pend)
            (putK n s o.dst p.1 p.2 fun s' => drawS P gl n F ops pres ord (histB P i o s.h hist) (pendB P F i o (evR gl s.t (o.looksAt ops)) p.1 pend) s' K) none)
        (fun s => putK n s o.dst (.tuple []) s.h fun s' => drawS P gl n F ops pres ord hist pend s' K))
    rw [ih]
    split
    · rfl
    · congr 1
      funext s
      rw [stepK_nat]
      rfl
noncomputable def drawE (gl : Gl) (n : Nat) (F : FTab) (info : Nat → Option (List Nat × List Nat)) : Draw R := fun id ops s K =>
  match info id with
  | none => none
  | some q => br (okB P ops q.2 q.1) (drawC P gl n F ops q.2 q.1 [] [] s K) none
noncomputable def drawD (P : Program) (gl : Gl) (n : Nat) (F : FTab) (info : Nat → Option (List Nat × List Nat)) : Drawer R := ⟨drawE (P := P) gl n F info, fun _ => none⟩
noncomputable def drawH (P : Program) (gl : Gl) (n : Nat) (F : FTab) (info : Nat → Option (List Nat × List Nat)) (hook : Code → Option (Hook R)) : Drawer R := ⟨drawE (P := P) gl n F info, hook⟩
theorem drawE_sound {P : Program} {gl : Gl} {F : FTab} (hm : P.follows .mixedOrders = true) (hF : FSound P gl F) {n : Nat} {info : Nat → Option (List Nat × List Nat)} : DrawSound (R := R) P gl n (drawE (P := P) gl n F info) := by
  have h : drawE (R := R) (P := P) gl n F info = drawK P gl n F info := by
    funext id ops s K
    unfold drawE drawK
    cases info id with
    | none => rfl
    | some q => simp only [drawC_eq]
  rw [h]; exact draw_sound hm hF
theorem drawD_sound {P : Program} {gl : Gl} {F : FTab} (hm : P.follows .mixedOrders = true) (hF : FSound P gl F) {n : Nat} {info : Nat → Option (List Nat × List Nat)} {L : List Code} : DSound (R := R) P gl n (drawD P gl n F info) L :=
  ⟨drawE_sound hm hF, fun _ _ _ h => by cases h⟩
theorem drawH_sound {P : Program} {gl : Gl} {F : FTab} (hm : P.follows .mixedOrders = true) (hF : FSound P gl F) {n : Nat} {info : Nat → Option (List Nat × List Nat)} {hook : Code → Option (Hook R)} {L : List Code} (hh : ∀ c, c ∈ L → ∀ h, hook c = some h → HookSound P gl n c h) : DSound (R := R) P gl n (drawH P gl n F info hook) L :=
  ⟨drawE_sound hm hF, hh⟩
end
end Go.Ab
