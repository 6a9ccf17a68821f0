/- The abstract machine, 16: an append is the model's. -/
import Derived.Test.YtdhghfkempgejaaGreatDoorAbAppend
namespace Go.Ab
open Go.RowKit
section
variable {R : Type} {P : Program} {E : Operand → AV} {ty : TypeId} {K : AV → Heap → Option R} {r : R} {w0 : World} {ρ ρ' : Ren} {H H' : Heap} {w w' : World}

theorem zero_size {zv : Value} {n : Nat} : (Builtin.zeroCells zv.cells n).size = n * zv.cells.size := size_zeroCells _ _

theorem firstCells_of {z m cc : Nat} {a : Option Addr} {news : List Value} (hl : news.length = m * z) (hc : ∀ x, a = some x → ∀ (j : Nat) u, news[j]? = some u → w.cell? (x.add j) = some u) (hn : a = none → news = []) :
    (Builtin.firstCells z m (.slice a m cc)).run P w = .ok news.toArray w := by
  cases a with
  | none => rw [hn rfl]; simp [Builtin.firstCells]
  | some x => exact run_firstCells_some w z m x m cc news hl (hc x rfl)

theorem len_of {e g : Nat} {data : List AV} {old : List (Nat × Nat)} {ro : Bool} {j n : Nat} (h : (Blk.cells e g data old ro).len j = some n) : (g = j ∧ n = data.length) ∨ (g ≠ j ∧ oldLen old j = some n) := by
  rw [Blk.len_cells] at h
  by_cases e1 : g = j
  · rw [if_pos e1] at h; cases h; exact .inl ⟨e1, rfl⟩
  · rw [if_neg e1] at h; exact .inr ⟨e1, h⟩

/-- What a slice that grew reads as: a row of one's own, of whatever capacity. -/
theorem Rep.grownNew (hrep : Rep P w0 ρ H w) {e z n m cap : Nat} {olds vs : List AV} {olds' news : List Value} {rest : Array Value} (h1 : VRs ρ olds olds') (h2 : VRs ρ vs news) (l1 : olds'.length = n * z) (l2 : news.length = m * z)
    (hr : rest.size = (cap - (n + m)) * z) (hcap : n + m ≤ cap) :
    ∃ ρ', Ext ρ H ρ' (H.push (.cells e 0 (olds ++ vs) [] false)) ∧ Rep P w0 ρ' (H.push (.cells e 0 (olds ++ vs) [] false)) (w.drew.alloc (.cells (olds'.toArray ++ news.toArray ++ rest) e)) ∧
      VR ρ' (.sl ⟨some ⟨H.size, 0, 0⟩, n + m, .unk z⟩) (.slice (some ⟨w.heap.size, 0, none⟩) (n + m) cap) := by
  have hlen : (olds ++ vs).length = olds'.length + news.length := by rw [List.length_append, h1.length, h2.length]
  have hh := hrep.drew.newCells (hrep.drew.spot (.cells e 0 (olds ++ vs) [] false)) (olds'.toArray ++ news.toArray ++ rest) (by
    rw [hlen]
    have : ((olds'.toArray ++ news.toArray ++ rest).toList.take (olds'.length + news.length)) = olds' ++ news := by
      simp only [Array.toList_append]
      rw [← List.length_append]; exact List.take_left
    rw [this]
    exact h1.append h2)
  refine ⟨_, Spot.ext hrep _, hh, VR.slU (a := ⟨H.size, 0, 0⟩) (l := ⟨w.heap.size, 0, 0, _⟩) (n + m) cap z (Ren.set_same ρ _ _ _) (Nat.le_refl _) hcap ?_⟩
  simp only [Array.size_append, List.size_toArray, hr, l1, l2, Nat.sub_self, Nat.zero_add]
  rw [← Nat.add_mul, ← Nat.add_mul]
  exact Nat.mul_le_mul_right _ (by omega)

/-- A slice of unknown capacity goes on: in its place, or in a new row. -/
theorem grow_sound {t tt e : TypeId} {i : TypeInfo} {zv : Value} {a : AA} {n m xcc g1 : Nat} {sv : Value} {xad : Addr} {vs : List AV} {news : List Value}
    (ht : P.underlying t = some (.slice e)) (hi : P.info? e = some i) (hz : i.zero = some zv) (hpos : 0 < i.size) (hzs : zv.cells.size = i.size)
    (hg : H.grow e a (Nat.mul n i.size) vs = some (g1, H')) (hrep : Rep P w0 ρ H w) (hs : VR ρ (.sl ⟨some a, n, .unk i.size⟩) sv)
    (hnews : VRs ρ vs news) (hnl : news.length = m * i.size) (hnew1 : ∀ (j : Nat) u, news[j]? = some u → w.cell? (xad.add j) = some u) (hone : allOne vs = true)
    (hbytes : (n + m) * i.bytes ≤ 140737488355328) (hmax : n + m ≤ 4294967296) (hm : 0 < m) (hf : (Builtin.firstCells i.size m (.slice (some xad) m xcc)).run P w = .ok news.toArray w) :
    ∃ ρ' v' w', Ext ρ H ρ' H' ∧ Rep P w0 ρ' H' w' ∧ VR ρ' (.sl ⟨some ⟨a.b, g1, a.o⟩, Nat.add n m, .unk i.size⟩) v' ∧ (Builtin.append_ #[t, t] tt #[sv, .slice (some xad) m xcc]).run P w = .ok v' w' := by
  unfold Heap.grow at hg
  split at hg
  · rename_i e' g data old ro hb
    obtain ⟨hro, hg2⟩ := br_some' hg
    obtain ⟨hee, hg3⟩ := br_some hg2
    obtain ⟨nv, hnv, hg4⟩ := bind_some hg3
    obtain ⟨hpv, hg5⟩ := br_some hg4
    have hee' := Nat.eq_of_beq_eq_true hee
    subst hee'
    subst hro
    have hp : a.o + n * i.size ≤ nv := ble_le hpv
    rw [ble_min] at hg5
    cases hg5
    have hvl : vs.length = m * i.size := by rw [hnews.length, hnl]
    have hvpos : 0 < vs.length := by rw [hvl]; exact Nat.mul_pos hm hpos
    have hblk : ∀ g' l', ρ a.b g' = some l' → BlkRep P ρ w l' g' (.cells e g data old false) := fun g' l' f => by have q := hrep.blk a.b g' l' f; rw [hb] at q; exact q
    -- what the model's slice is
    have hsv : ∃ l ad c, ρ a.b a.g = some l ∧ l.lo ≤ a.o ∧ sv = .slice (some ad) n c ∧ n ≤ c ∧ ((ad = l.at a.o ∧ l.s + (a.o - l.lo) + c * i.size ≤ l.size) ∨ (n = 0 ∧ c = 0)) := by
      cases hs with
      | slU n c z hl hlo hnc hroom => exact ⟨_, _, c, hl, hlo, rfl, hnc, .inl ⟨rfl, hroom⟩⟩
      | slE x c hl hlo hc => exact ⟨_, x, 0, hl, hlo, rfl, Nat.le_refl _, .inr ⟨rfl, rfl⟩⟩
    obtain ⟨l, ad, c, hl, hlo, rfl, hnc, had⟩ := hsv
    have hcr := hblk a.g l hl nv hnv
    have hpd : a.o + n * i.size ≤ data.length := Nat.le_trans hp hcr.le
    have hml : (data.take (a.o + n * i.size)).length = a.o + n * i.size := by simp; omega
    by_cases hroom : n + m ≤ c
    · -- in its place
      have had' : ad = l.at a.o ∧ l.s + (a.o - l.lo) + c * i.size ≤ l.size := by
        rcases had with q | q
        · exact q
        · omega
      obtain ⟨rfl, hsize⟩ := had'
      obtain ⟨cc, fr, ⟨e', k1, ke'⟩, k2, k3, k5⟩ := hcr.ex
      rw [ke' rfl] at k1
      have hfr : fr = (0, 0) := k2 rfl
      subst hfr
      have hcm : (n + m) * i.size ≤ c * i.size := Nat.mul_le_mul_right _ hroom
      rw [Nat.add_mul] at hcm
      have hfit : l.s + (a.o + n * i.size - l.lo) + news.length ≤ cc.size := by rw [hnl, k3]; omega
      have hst := run_storeCells_at (P := P) l.cb (l.s + (a.o + n * i.size - l.lo)) e news 0 cc w k1 (by simpa using hfit) (hnews.one hone)
      simp only [Nat.add_zero] at hst
      have hrow := setRow_heap w l.cb cc (cc.toList.take (l.s + (a.o + n * i.size - l.lo)) ++ news ++ cc.toList.drop (l.s + (a.o + n * i.size - l.lo) + news.length)).toArray e (0, 0) k1
      have hget : ∀ j, (cc.toList.take (l.s + (a.o + n * i.size - l.lo)) ++ news ++ cc.toList.drop (l.s + (a.o + n * i.size - l.lo) + news.length)).toArray[j]? =
          if j < l.s + (a.o + n * i.size - l.lo) then cc[j]? else if j < l.s + (a.o + n * i.size - l.lo) + news.length then news[j - (l.s + (a.o + n * i.size - l.lo))]? else cc[j]? := by
        intro j
        rw [List.getElem?_toArray, putV_get (by simpa using hfit), Array.getElem?_toList]
      have hfresh : ρ.le (ρ.set a.b (g + 1) l) := by
        refine Ren.le_set ρ l ?_
        cases e1 : ρ a.b (g + 1) with
        | none => rfl
        | some l' => have := hrep.gen a.b (g + 1) l' g e1 ⟨_, _, _, _, hb⟩; omega
      have hreg := hrep.regen (w' := w.setRow l.cb (cc.toList.take (l.s + (a.o + n * i.size - l.lo)) ++ news ++ cc.toList.drop (l.s + (a.o + n * i.size - l.lo) + news.length)).toArray)
        (vs := vs) (p := a.o + n * i.size) (l0 := l) (l1 := l) hb ⟨a.g, hl⟩ (setRow_os _ _ _) (setRow_tape _ _ _) (setRow_output _ _ _) (by simp)
        (fun k _ hk => setRow_other w l.cb k _ (fun q => hk a.g l hl q.symm)) (by simpa using (hrep.dom a.b a.g l hl).2) (.inl ⟨rfl, rfl⟩) hpd
        (by
          refine ⟨by simp; omega, by rw [← k3, hvl, ← hnl]; omega, _, (0, 0), ⟨_, hrow, fun _ => rfl⟩, fun _ => rfl, ?_, ?_⟩
          · simp only [List.size_toArray, List.length_append, List.length_take, List.length_drop, Array.length_toList]; omega
          · intro o h1 h2
            rw [hget]
            by_cases c1 : o < a.o + n * i.size
            · obtain ⟨v, v', q1, q2, q3⟩ := k5 o h1 (by omega)
              rw [if_pos (by omega), List.getElem?_append, if_pos (by omega), List.getElem?_take, if_pos c1]
              exact ⟨v, v', q1, q2, q3.mono hfresh⟩
            · rw [if_neg (by omega), if_pos (by rw [hnl, ← hvl]; omega), List.getElem?_append, if_neg (by omega), hml]
              obtain ⟨u, hu⟩ : ∃ u, vs[o - (a.o + n * i.size)]? = some u := ⟨vs[o - (a.o + n * i.size)], List.getElem?_eq_getElem (by omega)⟩
              obtain ⟨u', hu', hr⟩ := hnews.get hu
              exact ⟨u, u', hu, by rw [← hu']; congr 1; omega, hr.mono hfresh⟩)
        (by
          intro g' l' n' f hn'
          have hc' := (hblk g' l' f n' hn').shrink (m := min n' (a.o + n * i.size)) (by omega)
          obtain ⟨c', fr', ⟨e'', r1, re''⟩, r2, r3, r5⟩ := hc'.ex
          rw [re'' rfl] at r1
          by_cases hcb : l'.cb = l.cb
          · rw [hcb, k1] at r1
            cases r1
            have hal := hrep.al a.b g' l' a.g l f hl hcb
            refine ⟨hc'.le, hc'.room, _, (0, 0), ⟨_, by rw [hcb]; exact hrow, fun _ => rfl⟩, fun _ => rfl, ?_, ?_⟩
            · simp only [List.size_toArray, List.length_append, List.length_take, List.length_drop, Array.length_toList]; omega
            · intro o h1 h2
              obtain ⟨v, v', q1, q2, q3⟩ := r5 o h1 h2
              rw [hget]
              by_cases c1 : l'.s + (o - l'.lo) < l.s + (a.o + n * i.size - l.lo)
              · rw [if_pos c1]; exact ⟨v, v', q1, q2, q3⟩
              · exfalso; omega
          · refine ⟨hc'.le, hc'.room, c', fr', ⟨_, by rw [setRow_other w l.cb l'.cb _ hcb]; exact r1, fun _ => rfl⟩, r2, r3, r5⟩)
      refine ⟨_, .slice (some (l.at a.o)) (n + m) c, _, hreg.2, hreg.1, VR.slU (a := ⟨a.b, g + 1, a.o⟩) (l := l) (n + m) c i.size (Ren.set_same ρ _ _ _) hlo hroom hsize, ?_⟩
      refine run_append_at ht hi (some (l.at a.o)) n c m (some xad) xcc news.toArray hf hroom (fun ad' q => ?_) (fun q => by cases q)
      cases q
      rw [Loc.at_add hlo]
      exact hst
    · -- in a new row
      have hrowA : H.row a (n * i.size) = some ((data.drop a.o).take (n * i.size)) := by
        unfold Heap.row
        rw [hb]
        rw [hnv]
        have : Nat.ble (Nat.add a.o (n * i.size)) nv = true := by rw [Nat.ble_eq]; exact hp
        simp only [Option.bind_some, this]
        rfl
      have holds : ∃ olds' : List Value, VRs ρ ((data.drop a.o).take (n * i.size)) olds' ∧ olds'.length = n * i.size ∧ ∀ (j : Nat) u, olds'[j]? = some u → w.cell? (ad.add j) = some u := by
        obtain ⟨_, vs', h2, h3, h4⟩ := hrep.rowCells hl hlo hrowA
        rcases had with ⟨q, _⟩ | ⟨q, _⟩
        · subst q; exact ⟨vs', h2, h3, h4⟩
        · subst q
          rw [Nat.zero_mul] at h3
          have : vs' = [] := List.eq_nil_of_length_eq_zero h3
          subst this
          exact ⟨[], h2, by simp, fun j u hu => by simp at hu⟩
      obtain ⟨olds', ho1, ho2, ho3⟩ := holds
      have hcapge : n + m ≤ grownCap w (n + m) c e := grownCap_ge w _ _ e
      have hrun := run_append_grow w t tt e i zv ht hi hz ad n c olds' ho2 ho3 xad m xcc news hnl hnew1 (by omega) (by omega) (growslice_fits (by omega) hbytes)
      generalize hcap : grownCap w (n + m) c e = cap at hcapge hrun
      generalize hrest : Builtin.zeroCells zv.cells (cap - (n + m)) = rest at hrun
      have hrs : rest.size = (cap - (n + m)) * i.size := by rw [← hrest, zero_size, hzs]
      have hcs : (olds'.toArray ++ news.toArray ++ rest).size = cap * i.size := by
        simp only [Array.size_append, List.size_toArray, ho2, hnl, hrs, ← Nat.add_mul]
        congr 1; omega
      have hfresh : ρ.le (ρ.set a.b (g + 1) ⟨w.heap.size, a.o, 0, cap * i.size⟩) := by
        refine Ren.le_set ρ _ ?_
        cases e1 : ρ a.b (g + 1) with
        | none => rfl
        | some l' => have := hrep.gen a.b (g + 1) l' g e1 ⟨_, _, _, _, hb⟩; omega
      have hcapm : (n + m) * i.size ≤ cap * i.size := Nat.mul_le_mul_right _ hcapge
      rw [Nat.add_mul] at hcapm
      have hheap : (w.drew.alloc (.cells (olds'.toArray ++ news.toArray ++ rest) e)).heap[w.heap.size]? = some (.cells (olds'.toArray ++ news.toArray ++ rest) e (0, 0)) := heap_alloc_new w.drew _
      have hreg := hrep.regen (w' := w.drew.alloc (.cells (olds'.toArray ++ news.toArray ++ rest) e)) (vs := vs) (p := a.o + n * i.size) (l0 := l) (l1 := ⟨w.heap.size, a.o, 0, cap * i.size⟩) hb ⟨a.g, hl⟩ rfl rfl rfl (by simp)
        (fun k hk _ => Below.heap_alloc w.drew _ k hk) (by simp) (.inr (Nat.le_refl _)) hpd
        (by
          refine ⟨by simp; omega, ?_, _, (0, 0), ⟨_, hheap, fun _ => rfl⟩, fun _ => rfl, hcs, ?_⟩
          · show 0 + (a.o + n * i.size + vs.length - a.o) ≤ cap * i.size
            rw [hvl]; omega
          · intro o h1 h2
            have h1' : a.o ≤ o := h1
            show ∃ v v', (data.take (a.o + n * i.size) ++ vs)[o]? = some v ∧ (olds'.toArray ++ news.toArray ++ rest)[0 + (o - a.o)]? = some v' ∧ _
            have hcells : (olds'.toArray ++ news.toArray ++ rest)[0 + (o - a.o)]? = (olds' ++ news)[o - a.o]? := by
              rw [Nat.zero_add, ← Array.getElem?_toList]
              simp only [Array.toList_append]
              rw [List.getElem?_append, if_pos (by simp; omega)]
            rw [hcells]
            by_cases c1 : o < a.o + n * i.size
            · rw [List.getElem?_append, if_pos (by omega), List.getElem?_take, if_pos c1, List.getElem?_append, if_pos (by omega)]
              obtain ⟨u, hu⟩ : ∃ u, data[o]? = some u := ⟨data[o], List.getElem?_eq_getElem (by omega)⟩
              have hu2 : ((data.drop a.o).take (n * i.size))[o - a.o]? = some u := by
                rw [List.getElem?_take, if_pos (by omega), List.getElem?_drop, ← hu]; congr 1; omega
              obtain ⟨u', hu', hr⟩ := ho1.get hu2
              exact ⟨u, u', hu, hu', hr.mono hfresh⟩
            · rw [List.getElem?_append, if_neg (by omega), hml, List.getElem?_append, if_neg (by omega)]
              obtain ⟨u, hu⟩ : ∃ u, vs[o - (a.o + n * i.size)]? = some u := ⟨vs[o - (a.o + n * i.size)], List.getElem?_eq_getElem (by omega)⟩
              obtain ⟨u', hu', hr⟩ := hnews.get hu
              exact ⟨u, u', hu, by rw [← hu']; congr 1; omega, hr.mono hfresh⟩)
        (by
          intro g' l' n' f hn'
          have hc' := (hblk g' l' f n' hn').shrink (m := min n' (a.o + n * i.size)) (by omega)
          exact hc'.mono (Ren.le_refl ρ) (Below.heap_alloc w.drew _ l'.cb (hrep.dom a.b g' l' f).2))
      refine ⟨_, _, _, hreg.2, hreg.1, VR.slU (a := ⟨a.b, g + 1, a.o⟩) (l := ⟨w.heap.size, a.o, 0, cap * i.size⟩) (n + m) cap i.size (Ren.set_same ρ _ _ _) (Nat.le_refl _) hcapge ?_, ?_⟩
      · show 0 + (a.o - a.o) + cap * i.size ≤ cap * i.size
        omega
      · rw [hrun]
        simp [Loc.at]
  · cases hg

theorem append_inv {t tt e : TypeId} {i : TypeInfo} {zv : Value} {s x s' : Sl} (ht : P.underlying t = some (.slice e)) (hi : P.info? e = some i) (hz : i.zero = some zv) (hpos : 0 < i.size) (hzs : zv.cells.size = i.size)
    (h : appendS e i.size i.bytes H s x = some (s', H')) (hrep : Rep P w0 ρ H w) {sv xv : Value} (hs : VR ρ (.sl s) sv) (hx : VR ρ (.sl x) xv) :
    ∃ ρ' v' w', Ext ρ H ρ' H' ∧ Rep P w0 ρ' H' w' ∧ VR ρ' (.sl s') v' ∧ (Builtin.append_ #[t, t] tt #[sv, xv]).run P w = .ok v' w' := by
  unfold appendS at h
  cases hx0 : Nat.beq x.n 0 with
  | true =>
    rw [hx0, br_true] at h
    obtain ⟨h1, h⟩ := br_some h
    cases h
    have hxn := Nat.eq_of_beq_eq_true hx0
    have hle := ble_le h1
    have hsv : ∃ base c, sv = .slice base s.n c ∧ s.n ≤ c := by
      obtain ⟨sa, sn, sc⟩ := s
      cases hs with
      | nilSl n c => exact ⟨_, _, rfl, hle⟩
      | sl n c hl hlo => exact ⟨_, _, rfl, hle⟩
      | slU n c z hl hlo hnc _ => exact ⟨_, _, rfl, hnc⟩
      | slE xx c hl hlo hc => exact ⟨_, _, rfl, Nat.le_refl _⟩
    obtain ⟨base, c, rfl, hnc⟩ := hsv
    have hxv : ∃ a cc, xv = .slice a 0 cc := by
      obtain ⟨xa, xn, xc⟩ := x
      simp only at hxn
      subst hxn
      cases hx <;> exact ⟨_, _, rfl⟩
    obtain ⟨a, cc, rfl⟩ := hxv
    refine ⟨ρ, _, w, Ext.refl _ _, hrep, hs, ?_⟩
    have hf : (Builtin.firstCells i.size 0 (.slice a 0 cc)).run P w = .ok #[] w := by
      have := firstCells_of (P := P) (w := w) (z := i.size) (m := 0) (cc := cc) (a := a) (news := []) (by simp) (fun _ _ j u hu => by simp at hu) (fun _ => rfl)
      simpa using this
    exact run_append_at (w' := w) ht hi base s.n c 0 a cc #[] hf hnc (fun ad _ => rfl) (fun _ => rfl)
  | false =>
    rw [hx0, br_false] at h
    have hxn : x.n ≠ 0 := Nat.ne_of_beq_eq_false hx0
    obtain ⟨vs, hvs, h⟩ := bind_some h
    obtain ⟨hone, h⟩ := br_some h
    obtain ⟨hby, h⟩ := br_some h
    obtain ⟨h32, h⟩ := br_some h
    have hbytes : (s.n + x.n) * i.bytes ≤ 140737488355328 := ble_le hby
    have hmax : s.n + x.n ≤ 4294967296 := ble_le h32
    obtain ⟨xa, xcc, news, hxv, hnews, hnl, hncell, hnnil⟩ := src_sound hrep hx hvs
    have hf : (Builtin.firstCells i.size x.n (.slice xa x.n xcc)).run P w = .ok news.toArray w := firstCells_of hnl hncell hnnil
    have hvl : vs.length = x.n * i.size := by rw [hnews.length, hnl]
    have hxa : ∃ ad, xa = some ad := by
      cases xa with
      | some ad => exact ⟨ad, rfl⟩
      | none =>
        rw [hnnil rfl] at hnl
        have : 0 < x.n * i.size := Nat.mul_pos (by omega) hpos
        simp at hnl; omega
    obtain ⟨xad, rfl⟩ := hxa
    subst hxv
    have hnew1 := hncell xad rfl
    obtain ⟨sa, sn, sc⟩ := s
    simp only at h hbytes hmax
    cases sc with
    | known c =>
      simp only at h
      cases hroom : Nat.ble (Nat.add sn x.n) c with
      | true =>
        rw [hroom, br_true] at h
        have hr : sn + x.n ≤ c := ble_le hroom
        cases sa with
        | none => cases h
        | some a =>
          simp only at h
          obtain ⟨H1, hst, h⟩ := bind_some h
          cases h
          obtain ⟨el, data, old, hb, hfit, _, rfl⟩ := store_some hst
          cases hs with
          | slE xx cc hl hlo hc =>
            have : c = 0 := hc
            omega
          | @sl _ l _ _ hl hlo =>
            obtain ⟨cc, k1, k2, k3, hrep', hext⟩ := hrep.write (o := a.o + sn * i.size) hb hl (by omega) hfit hnews
            refine ⟨ρ, .slice (some (l.at a.o)) (sn + x.n) c, _, hext, hrep', VR.sl _ _ hl hlo, ?_⟩
            refine run_append_at ht hi (some (l.at a.o)) sn c x.n (some xad) xcc news.toArray hf hr (fun ad e => ?_) (fun e => by cases e)
            cases e
            rw [Loc.at_add hlo]
            exact run_storeCells_at (P := P) l.cb (l.s + (a.o + sn * i.size - l.lo)) el news 0 cc w k1 (by simpa using k3) (hnews.one hone)
      | false =>
        rw [hroom, br_false] at h
        have hr : ¬ sn + x.n ≤ c := fun e => by
          have e' : Nat.ble (Nat.add sn x.n) c = true := by rw [Nat.ble_eq]; exact e
          rw [e'] at hroom; cases hroom
        obtain ⟨olds, hold, h⟩ := bind_some h
        obtain ⟨ba, bc, olds', hsv, ho1, ho2, ho3, ho4⟩ := src_sound hrep hs hold
        have hcapge : sn + x.n ≤ grownCap w (sn + x.n) bc e := grownCap_ge w _ _ e
        have hbc : bc = c := by
          cases hs with
          | nilSl => cases hsv; rfl
          | sl => cases hsv; rfl
          | slE xx cc hl hlo hc => cases hsv; exact (show c = 0 from hc).symm
        subst hbc
        obtain ⟨ρ', g1, g2, g3⟩ := hrep.grownNew (e := e) (rest := Builtin.zeroCells zv.cells (grownCap w (sn + x.n) bc e - (sn + x.n))) ho1 hnews ho2 hnl (by rw [zero_size, hzs]) hcapge
        cases sa with
        | some a =>
          cases h
          have hba : ∃ b, ba = some b := by
            cases hs <;> (cases hsv; exact ⟨_, rfl⟩)
          obtain ⟨b, rfl⟩ := hba
          subst hsv
          refine ⟨ρ', _, _, g1, g2, g3, ?_⟩
          exact run_append_grow w t tt e i zv ht hi hz b sn bc olds' ho2 (ho3 b rfl) xad x.n xcc news hnl hnew1 (by omega) (by omega) (growslice_fits (by omega) hbytes)
        | none =>
          obtain ⟨hc0, h⟩ := br_some h
          cases h
          have hc0' := Nat.eq_of_beq_eq_true hc0
          subst hc0'
          obtain ⟨q1, q2⟩ := br_some (show br (Nat.beq sn 0) (some ([] : List AV)) none = some olds from hold)
          have hsn := Nat.eq_of_beq_eq_true q1
          cases q2
          subst hsn
          cases hs
          cases hsv
          have : olds' = [] := ho4 rfl
          subst this
          have hr2 := run_append_nil (P := P) w t tt e i zv ht hi hz xad x.n xcc news hnl hnew1 (by omega) (by omega) (by simp only [Nat.zero_add] at hbytes; omega)
          refine ⟨ρ', _, _, g1, g2, g3, ?_⟩
          simp only [Nat.zero_add] at hr2 ⊢
          rw [hr2]
          simp
    | unk z' =>
      simp only at h
      obtain ⟨hzz, hK⟩ := br_some h
      have hzz' := Nat.eq_of_beq_eq_true hzz
      cases sa with
      | none => cases hK
      | some a =>
        simp only at hK
        obtain ⟨⟨g1, H1⟩, hg, hK⟩ := bind_some hK
        cases hK
        rw [← hzz'] at hs
        exact grow_sound ht hi hz hpos hzs hg hrep hs hnews hnl hnew1 hone hbytes hmax (by omega) hf
end
end Go.Ab
