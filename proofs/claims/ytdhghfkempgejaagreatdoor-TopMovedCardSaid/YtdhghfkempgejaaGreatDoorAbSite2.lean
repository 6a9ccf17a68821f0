/- The abstract machine, 31b: what the sites of loops over maps need. -/
import Derived.Test.YtdhghfkempgejaaGreatDoorAbSite
namespace Go.Ab
open Go.RowKit
theorem at_iter {H : Heap} {b : Nat} {m m' : Option Nat} {since last since' last' : Nat} {seen seen' : List Nat} (h : H.get b = .iter m since seen last) (a : AA) : Heap.at (H.put b (.iter m' since' seen' last')) a = Heap.at H a := by
  unfold Heap.at
  by_cases e : a.b = b
  · rw [e, Heap.get_put_same H b _ (size_of_get h (by intro h; cases h)), h]; rfl
  · rw [Heap.get_put_ne H _ e]
theorem preLess_all {H : Heap} {p : AA} : ∀ {es : List ME}, (List.rec true (fun e _ ih => Option.rec false (fun _ => ih) (lessO H p e)) es : Bool) = true → ∀ e ∈ es, ∃ b, lessO H p e = some b
  | [], _, e, he => by cases he
  | x :: es, h, e, he => by
    have h' : (Option.rec false (fun _ => (List.rec true (fun e _ ih => Option.rec false (fun _ => ih) (lessO H p e)) es : Bool)) (lessO H p x) : Bool) = true := h
    cases hq : lessO H p x with
    | none => rw [hq] at h'; cases h'
    | some b =>
      rw [hq] at h'
      rcases List.mem_cons.1 he with rfl | he
      · exact ⟨b, hq⟩
      · exact preLess_all h' e he
theorem ownB_some {x : Blk} {g : Nat} {b : Bool} (h : ownB x g b = true) : b = true ∧ ∃ e d, x = .cells e g d [] false := by
  unfold ownB at h
  split at h
  · rename_i e g0 d old ro
    split at h
    · cases ro with
      | true => cases h
      | false =>
        rw [br_false] at h
        cases hq : Nat.beq g0 g with
        | true =>
          rw [hq, br_true] at h
          have := Nat.eq_of_beq_eq_true hq
          subst this
          exact ⟨h, e, d, rfl⟩
        | false => rw [hq] at h; cases h
    · cases h
  · cases h
theorem freshB_all {k : AV} : ∀ {es : List ME}, freshB k es = true → ∀ e ∈ es, keyEq k e.k = some false
  | [], _, e, he => by cases he
  | x :: es, h, e, he => by
    have h' : (match keyEq k x.k with | some b => br b false (freshB k es) | none => false) = true := h
    cases hq : keyEq k x.k with
    | none => rw [hq] at h'; cases h'
    | some b =>
      rw [hq] at h'
      cases b with
      | true => cases h'
      | false =>
        rcases List.mem_cons.1 he with rfl | he
        · exact hq
        · exact freshB_all h' e he
theorem nodupB_all : ∀ {es : List ME}, nodupB es = true → ∀ x ∈ es, ∀ y ∈ es, x = y ∨ keyEq x.k y.k = some false ∨ keyEq y.k x.k = some false
  | [], _, x, hx => by cases hx
  | e :: es, h, x, hx => by
    intro y hy
    have h' : br (freshB e.k es) (nodupB es) false = true := h
    cases hq : freshB e.k es with
    | false => rw [hq] at h'; cases h'
    | true =>
      rw [hq, br_true] at h'
      rcases List.mem_cons.1 hx with hx' | hx' <;> rcases List.mem_cons.1 hy with hy' | hy'
      · exact .inl (hx'.trans hy'.symm)
      · rw [hx']; exact .inr (.inl (freshB_all hq y hy'))
      · rw [hy']; exact .inr (.inr (freshB_all hq x hx'))
      · exact nodupB_all h' x hx' y hy'
theorem keyEq_int {k : IntKind} {a b : Int} (h : keyEq (.int k a) (.int k b) = some false) : a ≠ b := by
  intro e
  subst e
  unfold keyEq at h
  simp [kEq_refl, eqI_eq] at h
theorem store_own {H : Heap} {b e g o : Nat} {x : List AV} {v : AV} (h : H.get b = .cells e g x [] false) : H.store ⟨b, g, o⟩ [v] = br (Nat.ble (Nat.add o 1) x.length) (br (allOne [v]) (some (H.put b (.cells e g (putAt x o [v]) [] false))) none) none := by
  unfold Heap.store
  rw [h]
  show br false none (br (Nat.beq g g) _ none) = _
  rw [br_false, Nat.beq_refl, br_true]
  rfl
noncomputable def putO (o n : Nat) (k v : AV) (x : List AV) : Option (List AV) :=
  (asI .i64 k).bind fun d => (asI .i64 v).bind fun c => (wrS d).bind fun d1 => (idxN d1 n).bind fun m => br (Nat.ble (Nat.add (Nat.add o (Nat.mul m 1)) 1) x.length) (some (putAt x (Nat.add o (Nat.mul m 1)) [.int .i64 c])) none
where wrS (d : Int) : Option Int := some (wr .i64 (d - 1))
theorem putAt_comm {x : List AV} {i j : Nat} {u v : AV} (hij : i ≠ j) (hi : i + 1 ≤ x.length) (hj : j + 1 ≤ x.length) : putAt (putAt x i [u]) j [v] = putAt (putAt x j [v]) i [u] := by
  have l1 : ∀ (k : Nat) (w : AV), k + 1 ≤ x.length → (putAt x k [w]).length = x.length := fun k w h => by unfold putAt; simp; omega
  apply List.ext_getElem?
  intro k
  rw [putAt_get (cells := putAt x i [u]) (vs := [v]) (off := j) (by rw [l1 i u hi]; simpa using hj), putAt_get (cells := putAt x j [v]) (vs := [u]) (off := i) (by rw [l1 j v hj]; simpa using hi), putAt_get (cells := x) (vs := [u]) (off := i) (by simpa using hi), putAt_get (cells := x) (vs := [v]) (off := j) (by simpa using hj)]
  simp only [List.length_cons, List.length_nil]
  repeat' split
  all_goals first | rfl | omega
theorem putO_some {o n : Nat} {k v : AV} {x x' : List AV} (h : putO o n k v x = some x') : ∃ d c i, k = .int .i64 d ∧ v = .int .i64 c ∧ i + 1 ≤ x.length ∧ idxN (wr .i64 (d - 1)) n = some (i - o) ∧ o ≤ i ∧ x' = putAt x i [.int .i64 c] ∧ x'.length = x.length := by
  unfold putO putO.wrS at h
  obtain ⟨d, hd, h⟩ := bind_some h
  obtain ⟨c, hc, h⟩ := bind_some h
  obtain ⟨d1, hd1, h⟩ := bind_some h
  obtain ⟨m, hm, h⟩ := bind_some h
  obtain ⟨hle, h⟩ := br_some h
  rw [← Option.some.inj hd1] at hm
  have hle' := ble_le hle
  have e1 : Nat.add o (Nat.mul m 1) = o + m := by simp
  rw [e1] at hle' h
  have hx := (Option.some.inj h).symm
  refine ⟨d, c, o + m, asI_some hd, asI_some hc, hle', by rw [Nat.add_sub_cancel_left]; exact hm, Nat.le_add_right _ _, hx, ?_⟩
  rw [hx, length_putAt (by simpa using hle')]
theorem putO_other {o n : Nat} {k v : AV} {x y : List AV} (hl : x.length = y.length) (h : putO o n k v x = none) : putO o n k v y = none := by
  unfold putO at h ⊢
  rw [← hl]
  cases h1 : asI .i64 k with
  | none => rfl
  | some d =>
    cases h2 : asI .i64 v with
    | none => rfl
    | some c =>
      rw [h1, h2] at h
      simp only [Option.bind_some] at h ⊢
      unfold putO.wrS at h ⊢
      simp only [Option.bind_some] at h ⊢
      cases h3 : idxN (wr .i64 (d - 1)) n with
      | none => rfl
      | some m =>
        rw [h3] at h
        simp only [Option.bind_some] at h ⊢
        cases h4 : Nat.ble (Nat.add (Nat.add o (Nat.mul m 1)) 1) x.length with
        | true => rw [h4] at h; cases h
        | false => rfl
theorem putO_at {o n : Nat} {k v : AV} {x y x' : List AV} (hl : x.length = y.length) (h : putO o n k v x = some x') : ∃ d c i, k = .int .i64 d ∧ v = .int .i64 c ∧ idxN (wr .i64 (d - 1)) n = some (i - o) ∧ o ≤ i ∧ i + 1 ≤ x.length ∧ x' = putAt x i [.int .i64 c] ∧ putO o n k v y = some (putAt y i [.int .i64 c]) := by
  obtain ⟨d, c, i, e1, e2, e3, e4, e5, e6, e7⟩ := putO_some h
  refine ⟨d, c, i, e1, e2, e4, e5, e3, e6, ?_⟩
  unfold putO putO.wrS
  rw [e1, e2]
  simp only [asI_some', Option.bind_some, e4]
  have : Nat.add o (Nat.mul (i - o) 1) = i := by simp; omega
  rw [this, ← hl]
  have : Nat.ble (Nat.add i 1) x.length = true := by rw [Nat.ble_eq]; exact e3
  rw [this, br_true]

/-- A cell of its own that holds a number. -/
noncomputable def cellB (x : Blk) (g : Nat) : Bool :=
  match x with
  | .cells _ g0 data old ro => match data with
    | [.int .i64 _] => match old with
      | [] => br ro false (Nat.beq g0 g)
      | _ => false
    | _ => false
  | _ => false
noncomputable def preMax (t : Nat) (s : St) (_ : List ME) : Bool := ptrB (s.t.get .bad t) fun p => br (Nat.beq p.o 0) (cellB (s.h.get p.b) p.g) false
theorem cellB_some {x : Blk} {g : Nat} (h : cellB x g = true) : ∃ e n, x = .cells e g [.int .i64 n] [] false := by
  unfold cellB at h
  split at h
  · rename_i e g0 data old ro
    split at h
    · rename_i n
      split at h
      · cases ro with
        | true => cases h
        | false =>
          have := Nat.eq_of_beq_eq_true (show Nat.beq g0 g = true from h)
          subst this
          exact ⟨e, n, rfl⟩
      · cases h
    · cases h
  · cases h
theorem at_own {H : Heap} {b e g : Nat} {v : AV} (h : H.get b = .cells e g [v] [] false) : Heap.at H ⟨b, g, 0⟩ = some v := by
  unfold Heap.at
  simp only [h]
  unfold Blk.at
  simp [Blk.len_cells]
  rfl
end Go.Ab
