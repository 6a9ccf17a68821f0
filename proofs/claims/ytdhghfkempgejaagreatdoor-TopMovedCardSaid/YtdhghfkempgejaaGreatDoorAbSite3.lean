/- The abstract machine, 31c: loops over maps that count in the cells of a slice. -/
import Derived.Test.YtdhghfkempgejaaGreatDoorAbSite2
namespace Go.Ab
open Go.RowKit
noncomputable def rng0B (es : List ME) : Bool := List.rec true (fun e _ ih => match e.k with
  | .int _ n => br (ltI n 0) false (br (ltI n 1000000000) ih false)
  | _ => false) es
theorem rng0B_all : ∀ {es : List ME}, rng0B es = true → ∀ e ∈ es, ∃ k n, e.k = .int k n ∧ 0 ≤ n ∧ n < 1000000000
  | [], _, e, he => by cases he
  | x :: es, h, e, he => by
    have h' : (match x.k with | .int _ n => br (ltI n 0) false (br (ltI n 1000000000) (rng0B es) false) | _ => false) = true := h
    split at h'
    · rename_i k n hk
      cases hq : ltI n 0 with
      | true => rw [hq] at h'; cases h'
      | false =>
        cases hq2 : ltI n 1000000000 with
        | false => rw [hq, hq2] at h'; cases h'
        | true =>
          rw [hq, hq2, br_false, br_true] at h'
          rw [ltI_eq] at hq hq2
          rcases List.mem_cons.1 he with rfl | he
          · exact ⟨k, n, hk, by have := of_decide_eq_false hq; omega, of_decide_eq_true hq2⟩
          · exact rng0B_all h' e he
    · cases h'
noncomputable def ownG (x : Blk) (g : Nat) (b : Bool) : Bool :=
  match x with
  | .cells _ g0 _ _ ro => br ro false (br (Nat.beq g0 g) b false)
  | _ => false
theorem ownG_some {x : Blk} {g : Nat} {b : Bool} (h : ownG x g b = true) : b = true ∧ ∃ e d o, x = .cells e g d o false := by
  unfold ownG at h
  split at h
  · rename_i e g0 d old ro
    cases ro with
    | true => cases h
    | false =>
      rw [br_false] at h
      cases hq : Nat.beq g0 g with
      | true =>
        rw [hq, br_true] at h
        have := Nat.eq_of_beq_eq_true hq
        subst this
        exact ⟨h, e, d, old, rfl⟩
      | false => rw [hq] at h; cases h
  · cases h
/-- A struct's slice field, a slice of its own block. -/
noncomputable def preSlot (t off : Nat) (s : St) (es : List ME) : Bool := ptrB (s.t.get .bad t) fun p => Option.rec false (fun v => slB v fun q => Option.rec false (fun a => br (Nat.beq a.b p.b) false (ownG (s.h.get a.b) a.g (br (rng0B es) (nodupB es) false))) q.a) (Heap.at s.h ⟨p.b, p.g, Nat.add p.o off⟩)
theorem store_gen {H : Heap} {b e g o : Nat} {x : List AV} {old : List (Nat × Nat)} {v : AV} (h : H.get b = .cells e g x old false) : H.store ⟨b, g, o⟩ [v] = br (Nat.ble (Nat.add o 1) x.length) (br (allOne [v]) (some (H.put b (.cells e g (putAt x o [v]) (cutOld old o) false))) none) none := by
  unfold Heap.store
  rw [h]
  show br false none (br (Nat.beq g g) _ none) = _
  rw [br_false, Nat.beq_refl, br_true]
  rfl
theorem at_gen {H : Heap} {b e g o : Nat} {x : List AV} {old : List (Nat × Nat)} (h : H.get b = .cells e g x old false) : Heap.at H ⟨b, g, o⟩ = x[o]? := by
  unfold Heap.at
  simp only [h]
  unfold Blk.at
  simp only [Nat.beq_refl, br_true, nthL_eq]
theorem cutOld_comm (old : List (Nat × Nat)) (p q : Nat) : cutOld (cutOld old p) q = cutOld (cutOld old q) p := by
  induction old with
  | nil => rfl
  | cons x old ih =>
    show (⟨x.1, br (Nat.ble (br (Nat.ble x.2 p) x.2 p) q) (br (Nat.ble x.2 p) x.2 p) q⟩ :: cutOld (cutOld old p) q : List (Nat × Nat)) = ⟨x.1, br (Nat.ble (br (Nat.ble x.2 q) x.2 q) p) (br (Nat.ble x.2 q) x.2 q) p⟩ :: cutOld (cutOld old q) p
    rw [ih, ble_min, ble_min, ble_min, ble_min]
    congr 2; omega
/-- One more, or one less, in a cell. -/
abbrev Slot := List AV × List (Nat × Nat)
noncomputable def cntO (o n : Nat) (k v : AV) (x : Slot) : Option Slot :=
  (asI .i64 k).bind fun d => (asB v).bind fun b => (idxN d n).bind fun m => (x.1[Nat.add o (Nat.mul m 1)]?).bind fun c => (asI .i64 c).bind fun z =>
    br (Nat.ble (Nat.add (Nat.add o (Nat.mul m 1)) 1) x.1.length) (some (putAt x.1 (Nat.add o (Nat.mul m 1)) [.int .i64 (wr .i64 (br b (z + 1) (z - 1)))], cutOld x.2 (Nat.add o (Nat.mul m 1)))) none
theorem putAt_other {x : List AV} {i j : Nat} {u : AV} (hij : i ≠ j) (hi : i + 1 ≤ x.length) : (putAt x i [u])[j]? = x[j]? := by
  rw [putAt_get (by simpa using hi)]
  simp only [List.length_cons, List.length_nil]
  split
  · rfl
  · rw [if_neg (by omega)]
theorem cntO_some {o n : Nat} {k v : AV} {x x' : Slot} (h : cntO o n k v x = some x') : ∃ d b i z, k = .int .i64 d ∧ v = .bool b ∧ idxN d n = some (i - o) ∧ o ≤ i ∧ x.1[i]? = some (.int .i64 z) ∧ i + 1 ≤ x.1.length ∧ x' = (putAt x.1 i [.int .i64 (wr .i64 (br b (z + 1) (z - 1)))], cutOld x.2 i) := by
  unfold cntO at h
  obtain ⟨d, hd, h⟩ := bind_some h
  obtain ⟨b, hb, h⟩ := bind_some h
  obtain ⟨m, hm, h⟩ := bind_some h
  obtain ⟨c, hc, h⟩ := bind_some h
  obtain ⟨z, hz, h⟩ := bind_some h
  obtain ⟨hle, h⟩ := br_some h
  have e1 : Nat.add o (Nat.mul m 1) = o + m := by simp
  rw [e1] at hc hle h
  exact ⟨d, b, o + m, z, asI_some hd, asB_some hb, by rw [Nat.add_sub_cancel_left]; exact hm, Nat.le_add_right _ _, by rw [hc, asI_some hz], ble_le hle, (Option.some.inj h).symm⟩
theorem cntO_of {o n d i : Nat} {k v : AV} {b : Bool} {z : Int} {dd : Int} {x : Slot} (h1 : k = .int .i64 dd) (h2 : v = .bool b) (h3 : idxN dd n = some (i - o)) (h4 : o ≤ i) (h5 : x.1[i]? = some (.int .i64 z)) :
    cntO o n k v x = some (putAt x.1 i [.int .i64 (wr .i64 (br b (z + 1) (z - 1)))], cutOld x.2 i) := by
  unfold cntO
  rw [h1, h2]
  simp only [asI_some', asB, Option.bind_some, h3]
  have e1 : Nat.add o (Nat.mul (i - o) 1) = i := by simp; omega
  have hi := (List.getElem?_eq_some_iff.1 h5).1
  rw [e1, h5]
  simp only [Option.bind_some, asI_some']
  rw [show Nat.ble (Nat.add i 1) x.1.length = true from by rw [Nat.ble_eq]; exact hi, br_true]
noncomputable def cntG {R : Type} (o n : Nat) (e : ME) (x : Slot) : Option R ⊕ Slot :=
  match cntO o n e.k e.v x with
  | none => .inl none
  | some x' => .inr x'
theorem cnt_none {o n i : Nat} {k v : AV} {x : Slot} {u : AV} {old : List (Nat × Nat)} (hi : i + 1 ≤ x.1.length) (hne : ∀ d m, k = .int .i64 d → idxN d n = some m → o + m ≠ i) (h : cntO o n k v x = none) : cntO o n k v (putAt x.1 i [u], old) = none := by
  cases hq : cntO o n k v (putAt x.1 i [u], old) with
  | none => rfl
  | some y =>
    obtain ⟨d, b, j, z, e1, e2, e3, e4, e5, e6, e7⟩ := cntO_some hq
    have hj := hne d (j - o) e1 e3
    rw [putAt_other (by omega) hi] at e5
    rw [cntO_of (d := 0) e1 e2 e3 e4 e5] at h
    cases h
theorem cnt_comm {R : Type} {o n : Nat} {e1 e2 : ME} (h : e1 = e2 ∨ keyEq e1.k e2.k = some false ∨ keyEq e2.k e1.k = some false) (x : Slot) : bindG (cntG (R := R) o n e1 x) (cntG o n e2) = bindG (cntG o n e2 x) (cntG o n e1) := by
  rcases h with rfl | h
  · rfl
  have hidx : ∀ d1 d2 m1 m2, e1.k = .int .i64 d1 → e2.k = .int .i64 d2 → idxN d1 n = some m1 → idxN d2 n = some m2 → m1 ≠ m2 := by
    intro d1 d2 m1 m2 k1 k2 i1 i2 hm
    have v1 := (idxN_some i1).1
    have v2 := (idxN_some i2).1
    have : d1 = d2 := by rw [v1, v2, hm]
    rcases h with h | h
    · rw [k1, k2] at h; exact keyEq_int h this
    · rw [k1, k2] at h; exact keyEq_int h this.symm
  unfold bindG cntG
  cases a1 : cntO o n e1.k e1.v x with
  | none =>
    simp only
    cases a2 : cntO o n e2.k e2.v x with
    | none => rfl
    | some x2 =>
      simp only
      obtain ⟨d, b, i, z, p1, p2, p3, p4, p5, p6, p7⟩ := cntO_some a2
      rw [p7, cnt_none p6 (fun d1 m1 k1 i1 hm => hidx d1 d m1 (i - o) k1 p1 i1 p3 (by omega)) a1]
  | some x1 =>
    simp only
    obtain ⟨d, b, i, z, p1, p2, p3, p4, p5, p6, p7⟩ := cntO_some a1
    cases a2 : cntO o n e2.k e2.v x with
    | none =>
      simp only
      rw [p7, cnt_none p6 (fun d2 m2 k2 i2 hm => hidx d d2 (i - o) m2 p1 k2 p3 i2 (by omega)) a2]
    | some x2 =>
      simp only
      obtain ⟨d', b', i', z', q1, q2, q3, q4, q5, q6, q7⟩ := cntO_some a2
      have hii : i ≠ i' := by have := hidx d d' (i - o) (i' - o) p1 q1 p3 q3; omega
      rw [p7, q7, cntO_of (d := 0) (x := (putAt x.1 i _, cutOld x.2 i)) q1 q2 q3 q4 (by rw [putAt_other hii p6]; exact q5), cntO_of (d := 0) (x := (putAt x.1 i' _, cutOld x.2 i')) p1 p2 p3 p4 (by rw [putAt_other (Ne.symm hii) q6]; exact p5)]
      simp only
      rw [putAt_comm hii p6 q6, cutOld_comm]
end Go.Ab
