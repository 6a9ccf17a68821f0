/- The abstract machine, 11: operations that read memory. -/
import Derived.Test.YtdhghfkempgejaaGreatDoorAbPure7
import Derived.Test.YtdhghfkempgejaaGreatDoorAbHeap
namespace Go.Ab
open Go.RowKit
section
variable {R : Type} {P : Program} {E : Operand → AV} {ty : TypeId} {K : AV → Option R} {r : R} {w0 : World} {ρ : Ren} {H : Heap} {w : World}

noncomputable def Blk.at (x : Blk) (g o : Nat) : Option AV :=
  match x with
  | .cells _ g0 data old _ => br (Nat.beq g0 g) (nthL data o) ((oldLen old g).bind fun n => br (Nat.blt o n) (nthL data o) none)
  | _ => none
noncomputable def Heap.at (H : Heap) (a : AA) : Option AV := (H.get a.b).at a.g a.o
/-- Some cells in a row. -/
noncomputable def Heap.row (H : Heap) (a : AA) (k : Nat) : Option (List AV) :=
  ((H.get a.b).len a.g).bind fun n => br (Nat.ble (Nat.add a.o k) n) (some (((H.get a.b).data.drop a.o).take k)) none

theorem blt_lt {a b : Nat} (h : Nat.blt a b = true) : a < b := by rwa [Nat.blt_eq] at h
theorem Blk.at_some {x : Blk} {g o : Nat} {v : AV} (h : x.at g o = some v) : ∃ e g0 data old ro n, x = .cells e g0 data old ro ∧ x.len g = some n ∧ o < n ∧ data[o]? = some v := by
  unfold Blk.at at h
  split at h
  · rename_i e g0 data old ro
    cases eg : Nat.beq g0 g with
    | true =>
      rw [eg] at h
      rw [br_true, nthL_eq] at h
      refine ⟨e, g0, data, old, ro, data.length, rfl, by rw [Blk.len_cells, if_pos (Nat.eq_of_beq_eq_true eg)], ?_, h⟩
      exact (List.getElem?_eq_some_iff.1 h).1
    | false =>
      rw [eg] at h
      rw [br_false] at h
      obtain ⟨n, hn, h⟩ := bind_some h
      obtain ⟨h1, h⟩ := br_some h
      rw [nthL_eq] at h
      exact ⟨e, g0, data, old, ro, n, rfl, by rw [Blk.len_cells, if_neg (Nat.ne_of_beq_eq_false eg)]; exact hn, blt_lt h1, h⟩
  · cases h

/-- A cell that reads, in the model. -/
theorem Rep.cell (h : Rep P w0 ρ H w) {a : AA} {l : Loc} {v : AV} (hl : ρ a.b a.g = some l) (hlo : l.lo ≤ a.o) (hv : H.at a = some v) : ∃ v', w.cell? (l.at a.o) = some v' ∧ VR ρ v v' := by
  obtain ⟨e, g0, data, old, ro, n, hx, hn, ho, hd⟩ := Blk.at_some hv
  have hb := h.blk a.b a.g l hl
  rw [hx] at hb hn
  obtain ⟨c, fr, ⟨e', h1, _⟩, _, _, h5⟩ := (hb n hn).ex
  obtain ⟨u, v', e1, e2, e3⟩ := h5 a.o hlo ho
  rw [hd] at e1; cases e1
  refine ⟨v', ?_, e3⟩
  simp only [World.cell?, Loc.at, h1, Option.isSome_none, Bool.false_eq_true, if_false]
  exact e2

theorem row_some {a : AA} {k : Nat} {l : List AV} (h : H.row a k = some l) : ∃ e g0 data old ro n, H.get a.b = .cells e g0 data old ro ∧ (H.get a.b).len a.g = some n ∧ a.o + k ≤ n ∧ l = (data.drop a.o).take k := by
  unfold Heap.row at h
  obtain ⟨n, hn, h⟩ := bind_some h
  obtain ⟨h1, h⟩ := br_some h
  cases h
  cases hx : H.get a.b with
  | cells e g0 data old ro => rw [hx] at hn; exact ⟨e, g0, data, old, ro, n, rfl, hn, ble_le h1, rfl⟩
  | gone => rw [hx] at hn; cases hn
  | map es c => rw [hx] at hn; cases hn
  | iter m a b c => rw [hx] at hn; cases hn
  | siter s p => rw [hx] at hn; cases hn
  | dead => rw [hx] at hn; cases hn

theorem Rep.rowCells (h : Rep P w0 ρ H w) {a : AA} {l : Loc} {k : Nat} {vs : List AV} (hl : ρ a.b a.g = some l) (hlo : l.lo ≤ a.o) (hv : H.row a k = some vs) :
    vs.length = k ∧ ∃ vs' : List Value, VRs ρ vs vs' ∧ vs'.length = k ∧ ∀ (j : Nat) v', vs'[j]? = some v' → w.cell? ((l.at a.o).add j) = some v' := by
  obtain ⟨e, g0, data, old, ro, n, hx, hn, hk, rfl⟩ := row_some hv
  have hb := h.blk a.b a.g l hl
  rw [hx] at hb hn
  have hc := hb n hn
  obtain ⟨c, fr, ⟨e', h1, _⟩, _, _, h5⟩ := hc.ex
  have hle := hc.le
  have hlen : ((data.drop a.o).take k).length = k := by simp; omega
  refine ⟨hlen, ((c.toList.drop (l.s + (a.o - l.lo))).take k), ?_, ?_, ?_⟩
  · have key : ∀ j, j < k → ∃ v v', data[a.o + j]? = some v ∧ c[l.s + (a.o - l.lo) + j]? = some v' ∧ VR ρ v v' := by
      intro j hj
      obtain ⟨v, v', q1, q2, q3⟩ := h5 (a.o + j) (by omega) (by omega)
      exact ⟨v, v', q1, by rw [← q2]; congr 1; omega, q3⟩
    have hl2 : ((c.toList.drop (l.s + (a.o - l.lo))).take k).length = k := by
      rcases Nat.eq_zero_or_pos k with e0 | e0
      · simp [e0]
      · obtain ⟨_, v', _, q2, _⟩ := key (k - 1) (by omega)
        have := (Array.getElem?_eq_some_iff.1 q2).1
        simp; omega
    refine VRs.of_get (by rw [hlen, hl2]) fun i v v' e1 e2 => ?_
    have hi : i < k := by rw [← hlen]; exact (List.getElem?_eq_some_iff.1 e1).1
    obtain ⟨u, u', q1, q2, q3⟩ := key i hi
    rw [List.getElem?_take, if_pos hi, List.getElem?_drop] at e1 e2
    rw [q1] at e1; cases e1
    rw [Array.getElem?_toList, q2] at e2; cases e2
    exact q3
  · rcases Nat.eq_zero_or_pos k with e0 | e0
    · simp [e0]
    · obtain ⟨_, v', _, q2, _⟩ := h5 (a.o + (k - 1)) (by omega) (by omega)
      have := (Array.getElem?_eq_some_iff.1 q2).1
      simp; omega
  · intro j v' e2
    have hj : j < k := by
      have := (List.getElem?_eq_some_iff.1 e2).1
      simp at this; omega
    rw [List.getElem?_take, if_pos hj, List.getElem?_drop, Array.getElem?_toList] at e2
    rw [Loc.at_add hlo]
    simp only [World.cell?, Loc.at, h1, Option.isSome_none, Bool.false_eq_true, if_false]
    rw [← e2]; congr 1; omega

/-! ### Loads -/
noncomputable def loadK (P : Program) (H : Heap) (t : TypeId) (x : AV) (K : AV → Option R) : Option R :=
  match x with
  | .ptr o => o.bind fun a => match tyOf P t with
    | .agg n => (H.row a n).bind fun l => K (.agg l)
    | .other => none
    | ty => (H.at a).bind fun v => castK ty v K
  | _ => none

/-- The value that the operation gives wherever the heap is represented. -/
def ReadOp (P : Program) (H : Heap) (op : Op) (ty : TypeId) (E : Operand → AV) (v : AV) : Prop :=
  ∀ (w0 : World) (ρ : Ren) (e : Operand → Value) (w : World), Rep P w0 ρ H w → (∀ x, VR ρ (E x) (e x)) → ∃ v', VR ρ v v' ∧ ∀ o : Oper, o.op = op → o.type = ty → (execOp e o).run P w = .ok (.value v') w

theorem agg_of_ty {t : TypeId} {n : Nat} (h : tyOf P t = .agg n) : ∃ d, P.underlying t = some d ∧ isAggD d = true ∧ n = P.cellsOf t := by
  unfold tyOf at h
  split at h <;> first | (cases h; done) | (cases h; exact ⟨_, by assumption, rfl, rfl⟩)
theorem notAgg_of_ty {t : TypeId} (h : ∀ n, tyOf P t ≠ .agg n) (ho : tyOf P t ≠ .other) : ∃ d, P.underlying t = some d ∧ isAggD d = false := by
  obtain ⟨d, hu⟩ := underlying_of_ty ho
  refine ⟨d, hu, ?_⟩
  cases d <;> first | rfl | (exfalso; exact h (P.cellsOf t) (by unfold tyOf; rw [hu]))

theorem run_loadVar_agg {t : TypeId} {n : Nat} (ht : tyOf P t = .agg n) {a : Addr} {vs : List Value} (hlen : vs.length = n) (hc : ∀ (j : Nat) v', vs[j]? = some v' → w.cell? (a.add j) = some v') :
    (loadVar t a).run P w = .ok (.agg vs.toArray) w := by
  obtain ⟨d, hu, hd, hn⟩ := agg_of_ty ht
  obtain ⟨i, hi⟩ := info_of_underlying hu
  have := run_loadCells_list (P := P) w a vs hc
  unfold loadVar
  simp only [Sem.run_bind, run_isAgg_of hu, hd, Result.andThen_ok, if_true, run_sizeOf w hi, ← hn, ← hlen, this, Sem.run_pure]
theorem run_loadVar_one {t : TypeId} (h : ∀ n, tyOf P t ≠ .agg n) (ho : tyOf P t ≠ .other) {a : Addr} {v : Value} (hc : w.cell? a = some v) : (loadVar t a).run P w = .ok v w := by
  obtain ⟨d, hu, hd⟩ := notAgg_of_ty h ho
  unfold loadVar
  simp [run_isAgg_of hu, hd, hc]

theorem load_inv {t : TypeId} {x : AV} (h : loadK P H t x K = some r) : ∃ v, K v = some r ∧ ∀ (w0 : World) (ρ : Ren) (x' : Value) (w : World), Rep P w0 ρ H w → VR ρ x x' →
    ∃ v', VR ρ v v' ∧ (Instr.loadAt t x').run P w = .ok v' w := by
  unfold loadK at h
  split at h
  · rename_i oa
    obtain ⟨a, hoa, h2⟩ := bind_some h
    subst hoa
    split at h2
    · rename_i n hn
      obtain ⟨l, hl, hK⟩ := bind_some h2
      refine ⟨_, hK, fun w0 ρ x' w hrep hx => ?_⟩
      cases hx with
      | ptr hρ hlo =>
        obtain ⟨_, vs, hvs, hlen, hcell⟩ := hrep.rowCells hρ hlo hl
        refine ⟨.agg vs.toArray, .agg (by simpa using hvs), ?_⟩
        simp [Instr.loadAt, Instr.sureAddr, run_loadVar_agg hn hlen hcell]
    · cases h2
    · rename_i ty q1 q2
      obtain ⟨v, hv, hK⟩ := bind_some h2
      refine ⟨v, castK_some hK, fun w0 ρ x' w hrep hx => ?_⟩
      cases hx with
      | ptr hρ hlo =>
        obtain ⟨v', hc, hr⟩ := hrep.cell hρ hlo hv
        refine ⟨v', hr, ?_⟩
        simp [Instr.loadAt, Instr.sureAddr, run_loadVar_one (fun n e => q1 n e) (fun e => q2 e) hc]
  · cases h

theorem load_sound {t : TypeId} {x : Operand} (h : loadK P H t (E x) K = some r) : ∃ v, K v = some r ∧ ReadOp P H (.load t x) ty E v := by
  obtain ⟨v, hK, hs⟩ := load_inv h
  refine ⟨v, hK, fun w0 ρ e w hrep hE => ?_⟩
  obtain ⟨v', hv', hr⟩ := hs w0 ρ (e x) w hrep (hE x)
  exact ⟨v', hv', fun o ho _ => by simp [execOp, ho, hr]⟩
end
end Go.Ab
