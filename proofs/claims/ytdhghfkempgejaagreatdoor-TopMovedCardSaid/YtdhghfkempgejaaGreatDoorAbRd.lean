/- The abstract machine, 35: what slices read, by hand. -/
import Derived.Test.YtdhghfkempgejaaGreatDoorAbFrame3
namespace Go.Ab
open Go.RowKit

/-- A slice of one-cell elements reads as a list. -/
structure Rd (H : Heap) (s : Sl) (l : List AV) : Prop where
  n : s.n = l.length
  row : srcRow H 1 s.a s.n = some l

theorem Rd.nil {H : Heap} {c : Cap} : Rd H ⟨none, 0, c⟩ [] := ⟨rfl, rfl⟩
theorem Rd.ptr {H : Heap} {s : Sl} {l : List AV} (h : Rd H s l) (hl : l ≠ []) : ∃ a, s.a = some a ∧ H.row a l.length = some l := by
  have hr := h.row
  unfold srcRow at hr
  cases ha : s.a with
  | none =>
    rw [ha] at hr
    have : s.n ≠ 0 := by rw [h.n]; exact fun e => hl (List.length_eq_zero_iff.1 e)
    simp only at hr
    rw [show Nat.beq s.n 0 = false from by cases hq : Nat.beq s.n 0 with | false => rfl | true => exact absurd (Nat.eq_of_beq_eq_true hq) this] at hr
    cases hr
  | some a =>
    rw [ha] at hr
    refine ⟨a, rfl, ?_⟩
    rw [← h.n]; simpa using hr
theorem row_at {H : Heap} {a : AA} {k i : Nat} {l : List AV} (h : H.row a k = some l) (hi : i < k) : Heap.at H ⟨a.b, a.g, Nat.add a.o (Nat.mul i 1)⟩ = l[i]? := by
  obtain ⟨e, g0, data, old, ro, n, hx, hn, hk, rfl⟩ := row_some h
  unfold Heap.at
  simp only [hx] at hn ⊢
  have e1 : Nat.add a.o (Nat.mul i 1) = a.o + i := by simp
  rw [e1]
  have e2 : ((data.drop a.o).take k)[i]? = data[a.o + i]? := by rw [List.getElem?_take, if_pos hi, List.getElem?_drop]
  rw [e2]
  unfold Blk.at
  simp only
  rw [Blk.len_cells] at hn
  cases hq : Nat.beq g0 a.g with
  | true => rw [br_true, nthL_eq]
  | false =>
    rw [br_false]
    rw [if_neg (Nat.ne_of_beq_eq_false hq)] at hn
    rw [hn, Option.bind_some, show Nat.blt (a.o + i) n = true from by rw [Nat.blt_eq]; omega, br_true, nthL_eq]
theorem Rd.at {H : Heap} {s : Sl} {l : List AV} (h : Rd H s l) {i : Nat} (hi : i < l.length) : ∃ a, s.a = some a ∧ Heap.at H ⟨a.b, a.g, Nat.add a.o (Nat.mul i 1)⟩ = some l[i] := by
  obtain ⟨a, ha, hr⟩ := h.ptr (by intro e; rw [e] at hi; simp at hi)
  exact ⟨a, ha, by rw [row_at hr hi, List.getElem?_eq_getElem hi]⟩
theorem Rd.push {H : Heap} {s : Sl} {l : List AV} (h : Rd H s l) (x : Blk) : Rd (H.push x) s l := by
  refine ⟨h.n, ?_⟩
  have hr := h.row
  unfold srcRow at hr ⊢
  split at hr
  · exact row_push hr x
  · exact hr
theorem Rd.put {H : Heap} {s : Sl} {l : List AV} (h : Rd H s l) {b : Nat} (x : Blk) (hb : ∀ a, s.a = some a → a.b ≠ b) : Rd (H.put b x) s l := by
  refine ⟨h.n, ?_⟩
  have hr := h.row
  unfold srcRow at hr ⊢
  split at hr
  · rename_i a ha
    unfold Heap.row at hr ⊢
    rw [Heap.get_put_ne H x (hb a ha)]
    exact hr
  · exact hr
theorem Rd.new {H : Heap} {e : TypeId} {l : List AV} {ro : Bool} (c : Cap) : Rd (H.push (.cells e 0 l [] ro)) ⟨some ⟨H.size, 0, 0⟩, l.length, c⟩ l := by
  refine ⟨rfl, ?_⟩
  show (H.push _).row ⟨H.size, 0, 0⟩ (Nat.mul l.length 1) = some l
  unfold Heap.row
  simp only [Heap.get_push_new]
  rw [Blk.len_cells, if_pos rfl, Option.bind_some]
  have : Nat.ble (Nat.add 0 (Nat.mul l.length 1)) l.length = true := by rw [Nat.ble_eq]; simp
  rw [this, br_true]
  simp [Blk.data]

theorem natI_nat (n : Nat) : natI (n : Int) = some n := rfl
/-- A slice's capacity is in order. -/
def Sl.ok (s : Sl) : Prop :=
  match s.c with
  | .known c => s.n ≤ c
  | .unk z => z = 1
theorem row_cut {H : Heap} {a : AA} {k lo m : Nat} {l : List AV} (h : H.row a k = some l) (hk : lo + m ≤ k) : H.row ⟨a.b, a.g, Nat.add a.o (Nat.mul lo 1)⟩ m = some ((l.drop lo).take m) := by
  obtain ⟨e, g0, data, old, ro, n, hx, hn, hkn, rfl⟩ := row_some h
  unfold Heap.row
  simp only [hn, Option.bind_some]
  have e1 : Nat.add a.o (Nat.mul lo 1) = a.o + lo := by simp
  rw [e1, show Nat.ble (Nat.add (a.o + lo) m) n = true from by rw [Nat.ble_eq]; show a.o + lo + m ≤ n; omega, br_true, hx]
  simp only [Blk.data]
  congr 1
  apply List.ext_getElem?
  intro i
  rw [List.getElem?_take, List.getElem?_take]
  by_cases hi : i < m
  · rw [if_pos hi, if_pos hi, List.getElem?_drop, List.getElem?_drop, List.getElem?_take, if_pos (by omega), List.getElem?_drop]
    congr 1; omega
  · rw [if_neg hi, if_neg hi]
theorem Rd.cut {H : Heap} {s : Sl} {l : List AV} (h : Rd H s l) (hc : s.ok) {lo hi : Nat} (h1 : lo ≤ hi) (h2 : hi ≤ l.length) :
    ∃ s', cutAt s 1 lo hi none = some s' ∧ Rd H s' ((l.drop lo).take (hi - lo)) ∧ s'.ok ∧ s'.n = hi - lo ∧ ∀ a', s'.a = some a' → ∃ a, s.a = some a ∧ a'.b = a.b := by
  obtain ⟨sa, sn, sc⟩ := s
  have hn : sn = l.length := h.n
  have hrow : srcRow H 1 sa sn = some l := h.row
  have hlen : ((l.drop lo).take (hi - lo)).length = hi - lo := by simp; omega
  have hble : Nat.ble lo hi = true := by rw [Nat.ble_eq]; exact h1
  have move : ∀ c', srcRow H 1 (sa.map fun a => ⟨a.b, a.g, Nat.add a.o (Nat.mul lo 1)⟩) (hi - lo) = some ((l.drop lo).take (hi - lo)) ∧ Rd H ⟨sa.map fun a => ⟨a.b, a.g, Nat.add a.o (Nat.mul lo 1)⟩, hi - lo, c'⟩ ((l.drop lo).take (hi - lo)) := by
    intro c'
    have key : srcRow H 1 (sa.map fun a => ⟨a.b, a.g, Nat.add a.o (Nat.mul lo 1)⟩) (hi - lo) = some ((l.drop lo).take (hi - lo)) := by
      cases sa with
      | none =>
        unfold srcRow at hrow
        have h0 : sn = 0 := by
          cases hq : Nat.beq sn 0 with
          | true => exact Nat.eq_of_beq_eq_true hq
          | false => simp only [hq] at hrow; cases hrow
        have h3 : hi - lo = 0 := by omega
        rw [h3]; simp [srcRow]
      | some a =>
        have hr : H.row a sn = some l := by simpa [srcRow] using hrow
        have := row_cut (lo := lo) (m := hi - lo) hr (by omega)
        simpa [srcRow] using this
    exact ⟨key, hlen.symm, key⟩
  cases sc with
  | known c =>
    have hc' : sn ≤ c := hc
    refine ⟨⟨moveA ⟨sa, sn, .known c⟩ lo c 1, hi - lo, .known (c - lo)⟩, ?_, ?_, ?_, rfl, ?_⟩
    · unfold cutAt
      rw [hble, br_true]
      simp only
      rw [show Nat.ble hi c = true from by rw [Nat.ble_eq]; omega, br_true]
      rfl
    · unfold moveA
      cases hq : Nat.beq c lo with
      | true =>
        have := Nat.eq_of_beq_eq_true hq
        have h3 : hi - lo = 0 := by omega
        rw [br_true, h3]
        refine ⟨by simp, ?_⟩
        cases sa with
        | none => simp [srcRow]
        | some a =>
          have hr : H.row a sn = some l := by simpa [srcRow] using hrow
          have := row_cut (lo := 0) (m := 0) hr (by omega)
          simpa [srcRow] using this
      | false => rw [br_false]; exact (move _).2
    · show hi - lo ≤ c - lo; omega
    · intro a' ha'
      simp only [moveA] at ha'
      cases hq : Nat.beq c lo with
      | true => rw [hq, br_true] at ha'; exact ⟨a', ha', rfl⟩
      | false =>
        rw [hq, br_false] at ha'
        obtain ⟨a, h1, h2⟩ := Option.map_eq_some_iff.1 ha'
        exact ⟨a, h1, by rw [← h2]⟩
  | unk z =>
    have hz : z = 1 := hc
    subst hz
    refine ⟨⟨sa.map fun a => ⟨a.b, a.g, Nat.add a.o (Nat.mul lo 1)⟩, hi - lo, .unk 1⟩, ?_, (move _).2, rfl, rfl, ?_⟩
    · unfold cutAt
      rw [hble, br_true]
      simp only
      rw [show Nat.ble hi sn = true from by rw [Nat.ble_eq]; omega, br_true]
      rfl
    · intro a' ha'
      obtain ⟨a, h1, h2⟩ := Option.map_eq_some_iff.1 ha'
      exact ⟨a, h1, by rw [← h2]⟩

/-- Append to a slice without room. -/
theorem append_fresh {H : Heap} {e : TypeId} {s x : Sl} {m : List AV} (hs : Rd H s []) (hsc : s.c = .known 0) (hx : Rd H x m) (ho : allOne m = true) (hb : m.length ≤ 1000000) :
    ∃ s' H', appendS e 1 8 H s x = some (s', H') ∧ Rd H' s' m ∧ s'.ok ∧ s'.n = m.length ∧ ((m = [] ∧ s' = s ∧ H' = H) ∨ (m ≠ [] ∧ s' = ⟨some ⟨H.size, 0, 0⟩, m.length, .unk 1⟩ ∧ H' = H.push (.cells e 0 m [] false))) := by
  obtain ⟨sa, sn, sc⟩ := s
  have hn : sn = 0 := hs.n
  simp only at hsc
  subst hsc; subst hn
  by_cases hm : m = []
  · subst hm
    have hx0 : x.n = 0 := hx.n
    refine ⟨⟨sa, 0, .known 0⟩, H, ?_, hs, Nat.le_refl _, rfl, .inl ⟨rfl, rfl, rfl⟩⟩
    unfold appendS
    rw [hx0]; rfl
  · have hxn : x.n = m.length := hx.n
    have hpos : 0 < m.length := List.length_pos_iff.2 hm
    refine ⟨⟨some ⟨H.size, 0, 0⟩, m.length, .unk 1⟩, H.push (.cells e 0 m [] false), ?_, Rd.new _, rfl, rfl, .inr ⟨hm, rfl, rfl⟩⟩
    unfold appendS
    rw [show Nat.beq x.n 0 = false from by cases hq : Nat.beq x.n 0 with | false => rfl | true => have := Nat.eq_of_beq_eq_true hq; omega, br_false]
    rw [hx.row, Option.bind_some, ho, br_true]
    simp only
    rw [show Nat.ble (Nat.mul (Nat.add 0 x.n) 8) 140737488355328 = true from by rw [Nat.ble_eq]; show (0 + x.n) * 8 ≤ _; omega, br_true,
      show Nat.ble (Nat.add 0 x.n) 4294967296 = true from by rw [Nat.ble_eq]; show 0 + x.n ≤ _; omega, br_true,
      show Nat.ble (Nat.add 0 x.n) 0 = false from by cases hq : Nat.ble (Nat.add 0 x.n) 0 with | false => rfl | true => have := ble_le hq; simp at this; omega, br_false]
    have hs0 : srcRow H 1 sa 0 = some [] := hs.row
    rw [hs0, Option.bind_some]
    have e1 : Nat.add 0 x.n = m.length := by simp [hxn]
    rw [e1]
    cases sa with
    | none => rfl
    | some a => rfl
/-- Append to a slice that has grown: a new generation of its block. -/
theorem append_grow {H : Heap} {e : TypeId} {a : AA} {k g : Nat} {data : List AV} {old : List (Nat × Nat)} {x : Sl} {l m : List AV} (hs : Rd H ⟨some a, k, .unk 1⟩ l) (hblk : H.get a.b = .cells e g data old false) (hd : a.o + k ≤ data.length) (hx : Rd H x m) (ho : allOne m = true) (hb : l.length + m.length ≤ 1000000) :
    ∃ s' H', appendS e 1 8 H ⟨some a, k, .unk 1⟩ x = some (s', H') ∧ Rd H' s' (l ++ m) ∧ s'.c = .unk 1 ∧ s'.n = (l ++ m).length ∧ ((m = [] ∧ H' = H ∧ s' = ⟨some a, k, .unk 1⟩) ∨ (m ≠ [] ∧ ∃ old', s' = ⟨some ⟨a.b, g + 1, a.o⟩, (l ++ m).length, .unk 1⟩ ∧ H' = H.put a.b (.cells e (g + 1) (data.take (a.o + k) ++ m) old' false))) := by
  have hk : k = l.length := hs.n
  by_cases hm : m = []
  · subst hm
    have hx0 : x.n = 0 := hx.n
    refine ⟨⟨some a, k, .unk 1⟩, H, ?_, by simpa using hs, rfl, by simpa using hk, .inl ⟨rfl, rfl, rfl⟩⟩
    unfold appendS
    rw [hx0]
    show br (Nat.ble k k) _ none = _
    rw [show Nat.ble k k = true from by rw [Nat.ble_eq]; exact Nat.le_refl _, br_true]
  · have hxn : x.n = m.length := hx.n
    have hpos : 0 < m.length := List.length_pos_iff.2 hm
    have hrow : H.row a k = some l := by have := hs.row; simpa [srcRow] using this
    obtain ⟨e', g0, data', old', ro, n, hg, hn, hkn, hl⟩ := row_some hrow
    rw [hblk] at hg
    cases hg
    rw [hblk] at hn
    have hlen : (data.take (a.o + k)).length = a.o + k := by simp; omega
    refine ⟨⟨some ⟨a.b, g + 1, a.o⟩, (l ++ m).length, .unk 1⟩, H.put a.b (.cells e (g + 1) (data.take (a.o + k) ++ m) (⟨g, br (Nat.ble data.length (Nat.add a.o k)) data.length (Nat.add a.o k)⟩ :: cutOld old (Nat.add a.o k)) false), ?_, ⟨rfl, ?_⟩, rfl, rfl, .inr ⟨hm, _, rfl, rfl⟩⟩
    · unfold appendS
      rw [show Nat.beq x.n 0 = false from by cases hq : Nat.beq x.n 0 with | false => rfl | true => have := Nat.eq_of_beq_eq_true hq; omega, br_false]
      rw [hx.row, Option.bind_some, ho, br_true]
      simp only
      rw [show Nat.ble (Nat.mul (Nat.add k x.n) 8) 140737488355328 = true from by rw [Nat.ble_eq]; show (k + x.n) * 8 ≤ _; omega, br_true,
        show Nat.ble (Nat.add k x.n) 4294967296 = true from by rw [Nat.ble_eq]; show k + x.n ≤ _; omega, br_true, Nat.beq_refl, br_true]
      unfold Heap.grow
      rw [hblk]
      simp only
      rw [br_false, Nat.beq_refl, br_true, hn, Option.bind_some]
      have e1 : Nat.add a.o (Nat.mul k 1) = a.o + k := by simp
      rw [e1, show Nat.ble (a.o + k) n = true from by rw [Nat.ble_eq]; exact hkn, br_true, Option.bind_some]
      have e2 : Nat.add k x.n = (l ++ m).length := by simp [hk, hxn]
      rw [e2]
      rfl
    · have hbs := size_of_get hblk (by intro h; cases h)
      show (H.put a.b _).row ⟨a.b, g + 1, a.o⟩ (Nat.mul (l ++ m).length 1) = some (l ++ m)
      unfold Heap.row
      simp only [Heap.get_put_same H a.b _ hbs]
      rw [Blk.len_cells, if_pos rfl, Option.bind_some]
      rw [show Nat.ble (Nat.add a.o (Nat.mul (l ++ m).length 1)) (data.take (a.o + k) ++ m).length = true from by
        rw [Nat.ble_eq, List.length_append, List.length_append, hlen]
        show a.o + (l.length + m.length) * 1 ≤ _
        omega, br_true]
      simp only [Blk.data]
      congr 1
      rw [List.drop_append_of_le_length (by rw [hlen]; omega)]
      have : (data.take (a.o + k)).drop a.o = l := by
        rw [hl, List.drop_take]; congr 1; omega
      rw [this]
      exact List.take_of_length_le (by simp)
theorem row_keep {H H' : Heap} {a : AA} {k : Nat} {l : List AV} (h : H.row a k = some l) (hg : H'.get a.b = H.get a.b) : H'.row a k = some l := by
  unfold Heap.row at h ⊢
  rw [hg]; exact h
theorem Rd.keep {H H' : Heap} {s : Sl} {l : List AV} (h : Rd H s l) (hg : ∀ a, s.a = some a → H'.get a.b = H.get a.b) : Rd H' s l := by
  refine ⟨h.n, ?_⟩
  have hr := h.row
  unfold srcRow at hr ⊢
  cases ha : s.a with
  | some a => rw [ha] at hr; exact row_keep hr (hg _ ha)
  | none => rw [ha] at hr; exact hr
theorem Rd.lt {H : Heap} {s : Sl} {l : List AV} (h : Rd H s l) {a : AA} (ha : s.a = some a) : a.b < H.size := by
  have hr := h.row
  unfold srcRow at hr
  rw [ha] at hr
  obtain ⟨e, g0, data, old, ro, n, hx, _⟩ := row_some hr
  exact size_of_get hx (by intro h; cases h)
end Go.Ab
