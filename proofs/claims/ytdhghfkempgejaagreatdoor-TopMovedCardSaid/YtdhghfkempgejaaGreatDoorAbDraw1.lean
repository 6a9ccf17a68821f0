/- The abstract machine, 22: drawn regions: what is checked once, and how they are evaluated. -/
import Derived.Test.YtdhghfkempgejaaGreatDoorAbDraw0
import Derived.Orders
namespace Go.Ab
open Go.RowKit

noncomputable def allL {α : Type} (l : List α) (f : α → Bool) : Bool := List.rec true (fun a _ ih => br (f a) ih false) l
theorem allL_mem {α : Type} {l : List α} {f : α → Bool} (h : allL l f = true) : ∀ a ∈ l, f a = true := by
  induction l with
  | nil => intro a ha; cases ha
  | cons x l ih =>
    have h' : br (f x) (allL l f) false = true := h
    cases e : f x with
    | false => rw [e] at h'; cases h'
    | true =>
      rw [e] at h'
      intro a ha
      rcases List.mem_cons.1 ha with rfl | ha
      · exact e
      · exact ih h' a ha
noncomputable def memB (l : List Nat) (k : Nat) : Bool := List.rec false (fun a _ ih => br (Nat.beq k a) true ih) l
theorem memB_mem {l : List Nat} {k : Nat} : memB l k = true ↔ k ∈ l := by
  induction l with
  | nil => exact ⟨fun h => (by cases h), fun h => (by cases h)⟩
  | cons a l ih =>
    show br (Nat.beq k a) true (memB l k) = true ↔ _
    cases e : Nat.beq k a with
    | true => exact ⟨fun _ => List.mem_cons.2 (.inl (Nat.eq_of_beq_eq_true e)), fun _ => rfl⟩
    | false =>
      rw [br_false, ih, List.mem_cons]
      exact ⟨.inr, fun h => h.resolve_left (Nat.ne_of_beq_eq_false e)⟩
noncomputable def nthD (l : List Nat) (j : Nat) : Nat := (nthL l j).getD 0
noncomputable def edgeM (pres : List Nat) (l : List Edge) : Nat :=
  List.rec 0 (fun e _ ih => br (Region.binds .any e) (Nat.lor (Nat.lor (Nat.shiftLeft 1 e.on) (nthD pres e.on)) ih) ih) l
/-- Whether 'j' must wait for 'i'. -/
noncomputable def preB (pres : List Nat) (i j : Nat) : Bool := Nat.testBit (nthD pres j) i

theorem edgeM_bit {pres : List Nat} {l : List Edge} {i : Nat} : Nat.testBit (edgeM pres l) i = true ↔ ∃ e ∈ l, Region.binds .any e = true ∧ (e.on = i ∨ preB pres i e.on = true) := by
  induction l with
  | nil =>
    show Nat.testBit 0 i = true ↔ _
    simp
  | cons e l ih =>
    show Nat.testBit (br (Region.binds .any e) (Nat.lor (Nat.lor (Nat.shiftLeft 1 e.on) (nthD pres e.on)) (edgeM pres l)) (edgeM pres l)) i = true ↔ _
    cases hb : Region.binds .any e with
    | false =>
      rw [br_false, ih]
      simp [hb]
    | true =>
      rw [br_true]
      show Nat.testBit (((1 <<< e.on) ||| nthD pres e.on) ||| edgeM pres l) i = true ↔ _
      rw [Nat.testBit_or, Nat.testBit_or, Bool.or_eq_true, Bool.or_eq_true, ih, Nat.one_shiftLeft, Nat.testBit_two_pow, decide_eq_true_eq]
      simp [hb, preB]

section
variable {R : Type} (P : Program)

noncomputable def perB (ops : Array Oper) (pres : List Nat) (i : Nat) : Bool :=
  match nthL ops.toList i with
  | none => false
  | some o => br (allL o.after.toList fun e => br (Region.binds .any e) (Nat.blt e.on ops.size) true) (br (Nat.beq (nthD pres i) (edgeM pres o.after.toList)) (notB (preB pres i i)) false) false
noncomputable def effB (o : Oper) : Bool := (clsOf P o.op).isEff
noncomputable def newB (o : Oper) : Bool := (clsOf P o.op).isNew
noncomputable def pairB (ops : Array Oper) (pres : List Nat) (i j : Nat) : Bool :=
  match nthL ops.toList i with
  | none => false
  | some x => match nthL ops.toList j with
    | none => false
    | some y => br (Nat.beq i j) false (br (preB pres j i) false (br (preB pres i j) true (br (x.apart ops y) (br (effB P x) (br (effB P y) false (notB (newB P y))) true) false)))
noncomputable def pairsL (f : Nat → Nat → Bool) (l : List Nat) : Bool := List.rec true (fun i l ih => br (allL l (f i)) ih false) l
noncomputable def okB (ops : Array Oper) (pres ord : List Nat) : Bool :=
  br (allL (List.range ops.size) (memB ord)) (br (allL ord (perB ops pres)) (br (pairsL (pairB P ops pres) ord) (Nat.ble ord.length ops.size) false) false) false

theorem pairsL_pairwise {f : Nat → Nat → Bool} {l : List Nat} (h : pairsL f l = true) : l.Pairwise fun i j => f i j = true := by
  induction l with
  | nil => exact .nil
  | cons i l ih =>
    have h' : br (allL l (f i)) (pairsL f l) false = true := h
    cases e : allL l (f i) with
    | false => rw [e] at h'; cases h'
    | true => rw [e] at h'; exact .cons (allL_mem e) (ih h')

/-- What the checks say. -/
structure Static (ops : Array Oper) (pres ord : List Nat) : Prop where
  len : ord.length ≤ ops.size
  all : ∀ i, i < ops.size → i ∈ ord
  per : ∀ i ∈ ord, ∃ o, ops[i]? = some o ∧ (∀ e ∈ o.after, Region.binds .any e = true → e.on < ops.size) ∧ preB pres i i = false ∧
    ∀ j, preB pres j i = true ↔ ∃ e ∈ o.after, Region.binds .any e = true ∧ (e.on = j ∨ preB pres j e.on = true)
  pair : ord.Pairwise fun i j => i ≠ j ∧ preB pres j i = false ∧ ∀ x y, ops[i]? = some x → ops[j]? = some y →
    (preB pres i j = true ∨ (x.apart ops y = true ∧ (effB P x = true → effB P y = false ∧ newB P y = false)))

theorem br_andL {b c : Bool} (h : br b c false = true) : b = true ∧ c = true := by
  cases b with
  | true => exact ⟨rfl, h⟩
  | false => cases h
theorem notB_true {b : Bool} (h : notB b = true) : b = false := by cases b <;> first | rfl | cases h
theorem okB_static {ops : Array Oper} {pres ord : List Nat} (h : okB P ops pres ord = true) : Static P ops pres ord := by
  unfold okB at h
  cases h1 : allL (List.range ops.size) (memB ord) with
  | false => rw [h1] at h; cases h
  | true =>
    rw [h1, br_true] at h
    cases h2 : allL ord (perB ops pres) with
    | false => rw [h2] at h; cases h
    | true =>
      rw [h2, br_true] at h
      obtain ⟨h, hlen⟩ := br_andL h
      refine ⟨ble_le hlen, fun i hi => memB_mem.1 (allL_mem h1 i (List.mem_range.2 hi)), fun i hi => ?_, (pairsL_pairwise h).imp fun {i j} hij => ?_⟩
      · have hp := allL_mem h2 i hi
        unfold perB at hp
        split at hp
        · cases hp
        · rename_i o ho
          rw [nthL_eq, Array.getElem?_toList] at ho
          refine ⟨o, ho, ?_⟩
          cases h3 : allL o.after.toList fun e => br (Region.binds .any e) (Nat.blt e.on ops.size) true with
          | false => rw [h3] at hp; cases hp
          | true =>
            rw [h3, br_true] at hp
            cases h4 : Nat.beq (nthD pres i) (edgeM pres o.after.toList) with
            | false => rw [h4] at hp; cases hp
            | true =>
              rw [h4, br_true] at hp
              refine ⟨fun e he hb => ?_, notB_true hp, fun j => ?_⟩
              · have := allL_mem h3 e (Array.mem_toList_iff.2 he)
                rw [hb, br_true] at this
                exact blt_lt this
              · unfold preB
                rw [Nat.eq_of_beq_eq_true h4, edgeM_bit]
                constructor
                · rintro ⟨e, he, q⟩; exact ⟨e, Array.mem_toList_iff.1 he, q⟩
                · rintro ⟨e, he, q⟩; exact ⟨e, Array.mem_toList_iff.2 he, q⟩
      · unfold pairB at hij
        split at hij
        · cases hij
        · rename_i x hx
          split at hij
          · cases hij
          · rename_i y hy
            rw [nthL_eq, Array.getElem?_toList] at hx hy
            cases h3 : Nat.beq i j with
            | true => rw [h3] at hij; cases hij
            | false =>
              rw [h3, br_false] at hij
              cases h4 : preB pres j i with
              | true => rw [h4] at hij; cases hij
              | false =>
                rw [h4, br_false] at hij
                refine ⟨Nat.ne_of_beq_eq_false h3, rfl, fun x' y' hx' hy' => ?_⟩
                rw [hx] at hx'; cases hx'
                rw [hy] at hy'; cases hy'
                cases h5 : preB pres i j with
                | true => exact .inl rfl
                | false =>
                  rw [h5, br_false] at hij
                  cases h6 : x.apart ops y with
                  | false => rw [h6] at hij; cases hij
                  | true =>
                    rw [h6, br_true] at hij
                    refine .inr ⟨rfl, fun hx => ?_⟩
                    rw [hx, br_true] at hij
                    cases h7 : effB P y with
                    | true => rw [h7] at hij; cases hij
                    | false => rw [h7, br_false] at hij; exact ⟨rfl, notB_true hij⟩

/-! ### Values that are the same -/
noncomputable def aaB (a b : AA) : Bool := br (Nat.beq a.b b.b) (br (Nat.beq a.g b.g) (Nat.beq a.o b.o) false) false
theorem aaB_eq {a b : AA} (h : aaB a b = true) : a = b := by
  obtain ⟨a1, a2, a3⟩ := a
  obtain ⟨b1, b2, b3⟩ := b
  unfold aaB at h
  simp only at h
  cases e1 : Nat.beq a1 b1 with
  | false => rw [e1] at h; cases h
  | true =>
    rw [e1, br_true] at h
    cases e2 : Nat.beq a2 b2 with
    | false => rw [e2] at h; cases h
    | true =>
      rw [e2, br_true] at h
      rw [Nat.eq_of_beq_eq_true e1, Nat.eq_of_beq_eq_true e2, Nat.eq_of_beq_eq_true h]
noncomputable def oaB : Option AA → Option AA → Bool
  | none, none => true
  | some a, some b => aaB a b
  | _, _ => false
theorem oaB_eq {a b : Option AA} (h : oaB a b = true) : a = b := by
  cases a <;> cases b
  · rfl
  · cases h
  · cases h
  · rw [aaB_eq h]
noncomputable def capB : Cap → Cap → Bool
  | .known a, .known b => Nat.beq a b
  | .unk a, .unk b => Nat.beq a b
  | _, _ => false
theorem capB_eq {a b : Cap} (h : capB a b = true) : a = b := by
  cases a <;> cases b
  · rw [Nat.eq_of_beq_eq_true h]
  · cases h
  · cases h
  · rw [Nat.eq_of_beq_eq_true h]
noncomputable def avB0 (a b : AV) : Bool :=
  match a with
  | .bool x => match b with
    | .bool y => eqB x y
    | _ => false
  | .int k x => match b with
    | .int k' y => br (kEq k k') (eqI x y) false
    | _ => false
  | .ptr x => match b with
    | .ptr y => oaB x y
    | _ => false
  | .sl x => match b with
    | .sl y => br (oaB x.a y.a) (br (Nat.beq x.n y.n) (capB x.c y.c) false) false
    | _ => false
  | .map (some x) => match b with
    | .map (some y) => Nat.beq x y
    | _ => false
  | _ => false
theorem br_and {b c : Bool} (h : br b c false = true) : b = true ∧ c = true := by
  cases b with
  | true => exact ⟨rfl, h⟩
  | false => cases h
theorem avB0_eq {a b : AV} (h : avB0 a b = true) : a = b := by
  unfold avB0 at h
  split at h
  · split at h
    · rw [eqB_eq, beq_iff_eq] at h; rw [h]
    · cases h
  · split at h
    · obtain ⟨h1, h2⟩ := br_and h
      rw [eqI_eq, beq_iff_eq] at h2
      rw [kEq_eq h1, h2]
    · cases h
  · split at h
    · rw [oaB_eq h]
    · cases h
  · split at h
    · rename_i x _ y
      obtain ⟨h1, h2⟩ := br_and h
      obtain ⟨h2, h3⟩ := br_and h2
      obtain ⟨x1, x2, x3⟩ := x
      obtain ⟨y1, y2, y3⟩ := y
      simp only at h1 h2 h3
      rw [oaB_eq h1, Nat.eq_of_beq_eq_true h2, capB_eq h3]
    · cases h
  · split at h
    · rw [Nat.eq_of_beq_eq_true h]
    · cases h
  · cases h
noncomputable def avsB (l : List AV) : List AV → Bool :=
  List.rec (fun m => match m with
    | [] => true
    | _ => false) (fun a _ ih m => match m with
    | [] => false
    | b :: m => br (avB0 a b) (ih m) false) l
theorem avsB_eq : ∀ {l m : List AV}, avsB l m = true → l = m
  | [], [], _ => rfl
  | [], _ :: _, h => by cases h
  | _ :: _, [], h => by cases h
  | a :: l, b :: m, h => by
    obtain ⟨h1, h2⟩ := br_and (show br (avB0 a b) (avsB l m) false = true from h)
    rw [avB0_eq h1, avsB_eq h2]
noncomputable def avB (a b : AV) : Bool :=
  match a with
  | .agg l => match b with
    | .agg m => avsB l m
    | _ => false
  | .tuple l => match b with
    | .tuple m => avsB l m
    | _ => false
  | a => avB0 a b
theorem avB_eq {a b : AV} (h : avB a b = true) : a = b := by
  unfold avB at h
  split at h
  · split at h
    · rw [avsB_eq h]
    · cases h
  · split at h
    · rw [avsB_eq h]
    · cases h
  · exact avB0_eq h

/-! ### Evaluation -/
noncomputable def evR (gl : Gl) (t : T AV) (L : List Nat) : Operand → AV
  | .tmp i => br (memB L i) (t.get .bad i) .bad
  | .const v => toAV v
  | .global g => br (gl.is g) (.ptr (some ⟨g, 0, 0⟩)) .bad
  | .func f => .fn (.func f) [] []

/-- Whether a read gives the same at another heap. -/
noncomputable def rdB (F : FTab) (o : Oper) (E : Operand → AV) (v : AV) (H : Heap) : Bool :=
  match stepK P F.oracle o.op o.type E H pairK with
  | some p => avB p.1 v
  | none => false

noncomputable def chkB (F : FTab) (pres : List Nat) (i : Nat) (o : Oper) (E : Operand → AV) (v : AV) (H' : Heap) (hist : List (Nat × Heap)) (pend : List (Nat × (Heap → Bool))) : Bool :=
  match clsOf P o.op with
  | .pure => true
  | .new => true
  | .read => allL hist fun q => br (preB pres q.1 i) true (rdB P F o E v q.2)
  | .eff => allL pend fun q => br (preB pres q.1 i) true (q.2 H')
def histB (i : Nat) (o : Oper) (H : Heap) (hist : List (Nat × Heap)) : List (Nat × Heap) :=
  match clsOf P o.op with
  | .eff => (i, H) :: hist
  | _ => hist
noncomputable def pendB (F : FTab) (i : Nat) (o : Oper) (E : Operand → AV) (v : AV) (pend : List (Nat × (Heap → Bool))) : List (Nat × (Heap → Bool)) :=
  match clsOf P o.op with
  | .read => (i, rdB P F o E v) :: pend
  | _ => pend

noncomputable def drawS (gl : Gl) (n : Nat) (F : FTab) (ops : Array Oper) (pres : List Nat) (ord : List Nat) : List (Nat × Heap) → List (Nat × (Heap → Bool)) → St → (St → Option R) → Option R :=
  List.rec (fun _ _ s K => K s) (fun i _ ih hist pend s K => match nthL ops.toList i with
    | none => none
    | some o => guardK ops o s
      (fun s => (stepK P F.oracle o.op o.type (evR gl s.t (o.looksAt ops)) s.h pairK).bind fun p =>
        br (chkB P F pres i o (evR gl s.t (o.looksAt ops)) p.1 p.2 hist pend)
          (putK n s o.dst p.1 p.2 fun s' => ih (histB P i o s.h hist) (pendB P F i o (evR gl s.t (o.looksAt ops)) p.1 pend) s' K) none)
      (fun s => putK n s o.dst (.tuple []) s.h fun s' => ih hist pend s' K)) ord

noncomputable def drawK (gl : Gl) (n : Nat) (F : FTab) (info : Nat → Option (List Nat × List Nat)) : Draw R := fun id ops s K =>
  match info id with
  | none => none
  | some q => br (okB P ops q.2 q.1) (drawS P gl n F ops q.2 q.1 [] [] s K) none
end
end Go.Ab
