/- The abstract machine, 14: stores and appends. -/
import Derived.Test.YtdhghfkempgejaaGreatDoorAbNew
namespace Go.Ab
open Go.RowKit
section
variable {R : Type} {P : Program} {E : Operand → AV} {ty : TypeId} {K : AV → Heap → Option R} {r : R} {w0 : World} {ρ ρ' : Ren} {H : Heap} {w w' : World}

/-- Older generations keep what lies before a cell. -/
noncomputable def cutOld (old : List (Nat × Nat)) (p : Nat) : List (Nat × Nat) := List.rec [] (fun x _ ih => ⟨x.1, br (Nat.ble x.2 p) x.2 p⟩ :: ih) old
theorem ble_min (a b : Nat) : br (Nat.ble a b) a b = min a b := by
  cases h : Nat.ble a b with
  | true => have := ble_le h; rw [br_true]; omega
  | false =>
    have : ¬ a ≤ b := fun e => by rw [← Nat.ble_eq] at e; rw [e] at h; cases h
    rw [br_false]; omega
theorem oldLen_cut (old : List (Nat × Nat)) (p g : Nat) : oldLen (cutOld old p) g = (oldLen old g).map (min · p) := by
  induction old with
  | nil => rfl
  | cons x l ih =>
    show oldLen (⟨x.1, br (Nat.ble x.2 p) x.2 p⟩ :: cutOld l p) g = _
    rw [oldLen_cons, oldLen_cons, ih, ble_min]
    by_cases e : x.1 = g
    · rw [if_pos e, if_pos e]; rfl
    · rw [if_neg e, if_neg e]

theorem CellsRep.shrink {e : TypeId} {data : List AV} {n m : Nat} {ro : Bool} {l : Loc} (h : CellsRep P ρ w e data n ro l) (hm : m ≤ n) : CellsRep P ρ w e data m ro l := by
  obtain ⟨c, fr, h1, h2, h3, h5⟩ := h.ex
  exact ⟨Nat.le_trans hm h.le, by have := h.room; omega, c, fr, h1, h2, h3, fun o a b => h5 o a (by omega)⟩

/-- A value that fits into one cell. -/
def oneCell : AV → Bool
  | .agg _ => false
  | .tuple _ => false
  | .bad => false
  | _ => true
theorem VR.one {v : AV} {v' : Value} (h : VR ρ v v') (ho : oneCell v = true) : v'.oneCell' = true := by
  cases h <;> first | rfl | cases ho
noncomputable def allOne (l : List AV) : Bool := List.rec true (fun v _ ih => br (oneCell v) ih false) l
theorem allOne_spec : ∀ {l : List AV}, allOne l = true → ∀ v ∈ l, oneCell v = true
  | [], _, _, h => by cases h
  | v :: l, h, u, hu => by
    have h' : br (oneCell v) (allOne l) false = true := h
    cases hv : oneCell v with
    | false => rw [hv] at h'; cases h'
    | true =>
      rw [hv] at h'
      cases hu with
      | head => exact hv
      | tail _ hu => exact allOne_spec h' u hu
theorem VRs.one : ∀ {l : List AV} {l' : List Value}, VRs ρ l l' → allOne l = true → ∀ v ∈ l', v.oneCell' = true
  | _, _, .nil, _, _, h => by cases h
  | v :: l, _, .cons a b, ho, u, hu => by
    have h' : br (oneCell v) (allOne l) false = true := ho
    cases hv : oneCell v with
    | false => rw [hv] at h'; cases h'
    | true =>
      rw [hv] at h'
      cases hu with
      | head => exact a.one hv
      | tail _ hu => exact VRs.one b h' u hu

theorem length_putAt {cells vs : List AV} {off : Nat} (h : off + vs.length ≤ cells.length) : (putAt cells off vs).length = cells.length := by
  unfold putAt; simp; omega
theorem putAt_get {cells vs : List AV} {off i : Nat} (h : off + vs.length ≤ cells.length) :
    (putAt cells off vs)[i]? = if i < off then cells[i]? else if i < off + vs.length then vs[i - off]? else cells[i]? := by
  unfold putAt
  rw [List.append_assoc, List.getElem?_append, List.length_take, show min off cells.length = off by omega]
  by_cases h1 : i < off
  · rw [if_pos h1, if_pos h1, List.getElem?_take, if_pos h1]
  · rw [if_neg h1, if_neg h1, List.getElem?_append]
    by_cases h2 : i < off + vs.length
    · rw [if_pos (by omega), if_pos h2]
    · rw [if_neg (by omega), if_neg h2, List.getElem?_drop]
      congr 1; omega
theorem putV_get {cells vs : List Value} {off i : Nat} (h : off + vs.length ≤ cells.length) :
    (cells.take off ++ vs ++ cells.drop (off + vs.length))[i]? = if i < off then cells[i]? else if i < off + vs.length then vs[i - off]? else cells[i]? := by
  rw [List.append_assoc, List.getElem?_append, List.length_take, show min off cells.length = off by omega]
  by_cases h1 : i < off
  · rw [if_pos h1, if_pos h1, List.getElem?_take, if_pos h1]
  · rw [if_neg h1, if_neg h1, List.getElem?_append]
    by_cases h2 : i < off + vs.length
    · rw [if_pos (by omega), if_pos h2]
    · rw [if_neg (by omega), if_neg h2, List.getElem?_drop]
      congr 1; omega

/-- Cells of the newest generation are written. -/
theorem Rep.write (h : Rep P w0 ρ H w) {b g o : Nat} {l : Loc} {e : TypeId} {data vs : List AV} {old : List (Nat × Nat)} {vs' : List Value}
    (hb : H.get b = .cells e g data old false) (hl : ρ b g = some l) (ho : l.lo ≤ o) (hfit : o + vs.length ≤ data.length) (hvs : VRs ρ vs vs') :
    ∃ c : Array Value, w.heap[l.cb]? = some (.cells c e (0, 0)) ∧ c.size = l.size ∧ l.s + (o - l.lo) + vs'.length ≤ c.size ∧
      Rep P w0 ρ (H.put b (.cells e g (putAt data o vs) (cutOld old o) false)) (w.setRow l.cb (c.toList.take (l.s + (o - l.lo)) ++ vs' ++ c.toList.drop (l.s + (o - l.lo) + vs'.length)).toArray) ∧
      Ext ρ H ρ (H.put b (.cells e g (putAt data o vs) (cutOld old o) false)) := by
  have hblk := h.blk b g l hl
  rw [hb] at hblk
  have hlen : (Blk.cells e g data old false).len g = some data.length := by rw [Blk.len_cells, if_pos rfl]
  have hc := hblk data.length hlen
  obtain ⟨c, fr, ⟨e', h1, he'⟩, h2, h3, h5⟩ := hc.ex
  rw [he' rfl] at h1
  have hfr : fr = (0, 0) := h2 rfl
  subst hfr
  have hvl := hvs.length
  have hrm := hc.room
  have hroom : l.s + (o - l.lo) + vs'.length ≤ c.size := by omega
  refine ⟨c, h1, h3, hroom, ?_, Ext.change hl _ (Ren.le_refl ρ) (fun _ _ _ => rfl)⟩
  refine h.change b _ (Ren.le_refl ρ) (fun _ _ _ => rfl) (h.dom b g l hl).1 (by rw [hb]; rfl) (setRow_os _ _ _) (setRow_tape _ _ _) (setRow_output _ _ _) (by simp) ?_ ?_ ?_ ?_
  · intro k _ hk
    exact setRow_other w l.cb k _ (fun e => hk g l hl e.symm)
  · intro g' l' hl'
    have hb' := h.blk b g' l' hl'
    rw [hb] at hb'
    refine ⟨by simpa using (h.dom b g' l' hl').2, ?_, .inl ⟨g', l', hl', rfl⟩⟩
    intro n hn
    rw [Blk.len_cells] at hn
    by_cases hg : g = g'
    · subst hg
      rw [if_pos rfl, length_putAt hfit] at hn
      cases hn
      rw [hl] at hl'; cases hl'
      refine ⟨by rw [length_putAt hfit]; exact Nat.le_refl _, hrm, _, (0, 0), ⟨_, setRow_heap w l.cb c _ e _ h1, fun _ => rfl⟩, fun _ => rfl, ?_, ?_⟩
      · simp; omega
      · intro i hi1 hi2
        obtain ⟨v, v', q1, q2, q3⟩ := h5 i hi1 hi2
        rw [putAt_get hfit]
        simp only [List.getElem?_toArray]
        rw [putV_get (by simpa using hroom)]
        by_cases c1 : i < o
        · rw [if_pos c1, if_pos (show l.s + (i - l.lo) < l.s + (o - l.lo) by omega)]
          exact ⟨v, v', q1, by rw [Array.getElem?_toList]; exact q2, q3⟩
        · rw [if_neg c1, if_neg (show ¬ l.s + (i - l.lo) < l.s + (o - l.lo) by omega)]
          by_cases c2 : i < o + vs.length
          · rw [if_pos c2, if_pos (show l.s + (i - l.lo) < l.s + (o - l.lo) + vs'.length by omega)]
            obtain ⟨u, hu⟩ : ∃ u, vs[i - o]? = some u := ⟨vs[i - o], List.getElem?_eq_getElem (by omega)⟩
            obtain ⟨u', hu', hr⟩ := hvs.get hu
            exact ⟨u, u', hu, by rw [← hu']; congr 1; omega, hr⟩
          · rw [if_neg c2, if_neg (show ¬ l.s + (i - l.lo) < l.s + (o - l.lo) + vs'.length by omega)]
            exact ⟨v, v', q1, by rw [Array.getElem?_toList]; exact q2, q3⟩
    · rw [if_neg hg, oldLen_cut] at hn
      obtain ⟨n0, hn0, hn1⟩ := Option.map_eq_some_iff.1 hn
      have hlen' : (Blk.cells e g data old false).len g' = some n0 := by rw [Blk.len_cells, if_neg hg]; exact hn0
      have hc' := (hb' n0 hlen').shrink (m := n) (by omega)
      obtain ⟨c', fr', ⟨e'', k1, ke''⟩, k2, k3, k5⟩ := hc'.ex
      rw [ke'' rfl] at k1
      have hno : n ≤ o := by omega
      have hle' := hc'.le
      have hdata : ∀ i, i < n → (putAt data o vs)[i]? = data[i]? := fun i hi => by rw [putAt_get hfit, if_pos (by omega)]
      by_cases hcb : l'.cb = l.cb
      · -- the same row: the cells before are as they were
        rw [hcb, h1] at k1
        cases k1
        have hal := h.al b g' l' g l hl' hl hcb
        refine ⟨by rw [length_putAt hfit]; exact hle', hc'.room, _, (0, 0), ⟨_, by rw [hcb]; exact setRow_heap w l.cb c _ e _ h1, fun _ => rfl⟩, fun _ => rfl, ?_, ?_⟩
        · simp; omega
        · intro i hi1 hi2
          obtain ⟨v, v', q1, q2, q3⟩ := k5 i hi1 hi2
          refine ⟨v, v', by rw [hdata i hi2]; exact q1, ?_, q3⟩
          simp only [List.getElem?_toArray]
          rw [putV_get (by simpa using hroom), Array.getElem?_toList]
          by_cases c1 : l'.s + (i - l'.lo) < l.s + (o - l.lo)
          · rw [if_pos c1]; exact q2
          · exfalso; omega
      · refine ⟨by rw [length_putAt hfit]; exact hle', hc'.room, c', fr', ⟨_, by rw [setRow_other w l.cb l'.cb _ hcb]; exact k1, fun _ => rfl⟩, k2, k3, ?_⟩
        intro i hi1 hi2
        obtain ⟨v, v', q1, q2, q3⟩ := k5 i hi1 hi2
        exact ⟨v, v', by rw [hdata i hi2]; exact q1, q2, q3⟩
  · intro g1 l1 g2 l2 e1 e2 hcb
    exact h.al b g1 l1 g2 l2 e1 e2 hcb
  · intro g1 l1 g0 e1 hx
    obtain ⟨e', d', o', r', hx⟩ := hx
    cases hx
    exact h.gen b g1 l1 g e1 ⟨_, _, _, _, hb⟩

/-! ### Stores -/
noncomputable def Heap.store (H : Heap) (a : AA) (vs : List AV) : Option Heap :=
  match H.get a.b with
  | .cells e g data old ro => br ro none (br (Nat.beq g a.g) (br (Nat.ble (Nat.add a.o vs.length) data.length) (br (allOne vs) (some (H.put a.b (.cells e g (putAt data a.o vs) (cutOld old a.o) false))) none) none) none)
  | _ => none
noncomputable def storeK (P : Program) (t : TypeId) (x v : AV) (H : Heap) (K : AV → Heap → Option R) : Option R :=
  match P.info? t with
  | some i => match x with
    | .ptr o => o.bind fun a => br (notBad v) (br (Nat.beq v.cells.length i.size) ((H.store a v.cells).bind fun H' => K (.tuple []) H') none) none
    | _ => none
  | none => none

theorem br_some' {α : Type} {b : Bool} {x : Option α} {r : α} (h : br b none x = some r) : b = false ∧ x = some r := by
  cases b
  · exact ⟨rfl, h⟩
  · cases h
theorem store_some {a : AA} {vs : List AV} {H' : Heap} (h : H.store a vs = some H') : ∃ e data old, H.get a.b = .cells e a.g data old false ∧ a.o + vs.length ≤ data.length ∧ allOne vs = true ∧
    H' = H.put a.b (.cells e a.g (putAt data a.o vs) (cutOld old a.o) false) := by
  unfold Heap.store at h
  split at h
  · rename_i e g data old ro hx
    obtain ⟨h1, h⟩ := br_some' h
    obtain ⟨h2, h⟩ := br_some h
    obtain ⟨h3, h⟩ := br_some h
    obtain ⟨h4, h⟩ := br_some h
    cases h
    have := Nat.eq_of_beq_eq_true h2
    subst this; subst h1
    exact ⟨e, data, old, hx, ble_le h3, h4, rfl⟩
  · cases h

theorem store_sound {t : TypeId} {x v : Operand} (h : storeK P t (E x) (E v) H K = some r) : ∃ u H', K u H' = some r ∧ EffOp P H (.store t x v) ty E u H' := by
  unfold storeK at h
  split at h
  · rename_i i hi
    split at h
    · rename_i oa ha
      obtain ⟨a, hoa, h⟩ := bind_some h
      subst hoa
      · obtain ⟨hnb, h⟩ := br_some h
        obtain ⟨h1, h⟩ := br_some h
        obtain ⟨H', hst, h⟩ := bind_some h
        have hsz := Nat.eq_of_beq_eq_true h1
        refine ⟨_, _, h, fun w0 ρ e w hrep hE => ?_⟩
        obtain ⟨el, data, old, hb, hfit, hone, rfl⟩ := store_some hst
        have hx := hE x; rw [ha] at hx
        have hv := hE v
        have hcells := hv.cells (notBad_ne hnb)
        generalize hxv : e x = xv at *
        cases hx with
        | ptr hl hlo =>
          rename_i l
          obtain ⟨c, k1, k2, k3, hrep', hext⟩ := hrep.write hb hl hlo hfit hcells
          refine ⟨ρ, undef, _, hext, hrep', .tuple .nil, fun o ho _ => .inr ⟨?_, rfl⟩⟩
          have hst := run_storeCells_at (P := P) l.cb (l.s + (a.o - l.lo)) el (e v).cells.toList 0 c w k1 (by simpa using k3) (hcells.one hone)
          have hvs : (e v).cells.size = i.size := by rw [← hsz, hcells.length]; simp
          have hsv : (storeVar t (l.at a.o) (e v)).run P w = .ok () (w.setRow l.cb (c.toList.take (l.s + (a.o - l.lo)) ++ (e v).cells.toList ++ c.toList.drop (l.s + (a.o - l.lo) + (e v).cells.toList.length)).toArray) := by
            unfold storeVar
            simp only [Sem.run_bind, run_sizeOf w hi, cellsOf_of hi, Result.andThen_ok]
            rw [if_neg (by omega)]
            exact hst
          simp only [execOp, ho, hxv, Instr.storeAt, Instr.sureAddr, Sem.run_bind, Sem.run_pure, Result.andThen_ok, hsv]
    · cases h
  · cases h
end
end Go.Ab
