/- The abstract machine, 15: appends. -/
import Derived.Test.YtdhghfkempgejaaGreatDoorAbStore
namespace Go.Ab
open Go.RowKit
section
variable {R : Type} {P : Program} {E : Operand → AV} {ty : TypeId} {K : AV → Heap → Option R} {r : R} {w0 : World} {ρ ρ' : Ren} {H : Heap} {w w' : World}

/-- A block goes on in a new generation: so many cells of the old ones, then others. -/
theorem Rep.regen (h : Rep P w0 ρ H w) {b g p : Nat} {e : TypeId} {data vs : List AV} {old : List (Nat × Nat)} {l0 l1 : Loc}
    (hb : H.get b = .cells e g data old false) (hk : ∃ g0, ρ b g0 = some l0)
    (ho : w'.os = w.os) (ht : w'.tape = w.tape) (hp : w'.output = w.output) (hsize : w.heap.size ≤ w'.heap.size)
    (hw : ∀ k, k < w.heap.size → (∀ g l, ρ b g = some l → l.cb ≠ k) → w'.heap[k]? = w.heap[k]?)
    (hl1 : l1.cb < w'.heap.size) (hcase : (l1.cb = l0.cb ∧ l1.s + l0.lo = l0.s + l1.lo) ∨ w.heap.size ≤ l1.cb)
    (hpd : p ≤ data.length)
    (hnew : CellsRep P (ρ.set b (g + 1) l1) w' e (data.take p ++ vs) (p + vs.length) false l1)
    (hold : ∀ g' l' n', ρ b g' = some l' → (Blk.cells e g data old false).len g' = some n' → CellsRep P ρ w' e data (min n' p) false l') :
    Rep P w0 (ρ.set b (g + 1) l1) (H.put b (.cells e (g + 1) (data.take p ++ vs) (⟨g, min data.length p⟩ :: cutOld old p) false)) w' ∧
      Ext ρ H (ρ.set b (g + 1) l1) (H.put b (.cells e (g + 1) (data.take p ++ vs) (⟨g, min data.length p⟩ :: cutOld old p) false)) := by
  obtain ⟨g0, hl0⟩ := hk
  have hfresh : ρ b (g + 1) = none := by
    cases e1 : ρ b (g + 1) with
    | none => rfl
    | some l => have := h.gen b (g + 1) l g e1 ⟨_, _, _, _, hb⟩; omega
  have hle : ρ.le (ρ.set b (g + 1) l1) := Ren.le_set ρ l1 hfresh
  have hoth : ∀ c g', c ≠ b → ρ.set b (g + 1) l1 c g' = ρ c g' := fun c g' hc => Ren.set_other ρ l1 (.inl hc)
  refine ⟨?_, Ext.change hl0 _ hle hoth⟩
  refine h.change b _ hle hoth (h.dom b g0 l0 hl0).1 (by rw [hb]; rfl) ho ht hp hsize hw ?_ ?_ ?_
  · intro g' l' hl'
    rcases Ren.set_inv hl' with ⟨_, rfl, rfl⟩ | f
    · refine ⟨hl1, ?_, ?_⟩
      · intro n hn
        rw [Blk.len_cells, if_pos rfl] at hn
        have : (data.take p ++ vs).length = p + vs.length := by simp; omega
        rw [this] at hn; cases hn
        exact hnew
      · rcases hcase with ⟨q, _⟩ | q
        · exact .inl ⟨g0, l0, hl0, q.symm⟩
        · exact .inr q
    · have hg' := h.gen b g' l' g f ⟨_, _, _, _, hb⟩
      refine ⟨Nat.lt_of_lt_of_le (h.dom b g' l' f).2 hsize, ?_, .inl ⟨g', l', f, rfl⟩⟩
      intro n hn
      rw [Blk.len_cells, if_neg (by omega), oldLen_cons] at hn
      have fin : ∀ n', (Blk.cells e g data old false).len g' = some n' → n = min n' p → CellsRep P (ρ.set b (g + 1) l1) w' e (data.take p ++ vs) n false l' := by
        intro n' hn' hnn
        have hc := hold g' l' n' f hn'
        rw [← hnn] at hc
        obtain ⟨c, fr, k1, k2, k3, k5⟩ := hc.ex
        have hnp : n ≤ p := by omega
        refine ⟨by simp; omega, hc.room, c, fr, k1, k2, k3, fun o q1 q2 => ?_⟩
        obtain ⟨v, v', r1, r2, r3⟩ := k5 o q1 q2
        refine ⟨v, v', ?_, r2, r3.mono hle⟩
        rw [List.getElem?_append, List.length_take, if_pos (by omega), List.getElem?_take, if_pos (by omega)]
        exact r1
      by_cases e1 : g = g'
      · rw [if_pos e1] at hn
        cases hn
        exact fin data.length (by rw [Blk.len_cells, if_pos e1]) rfl
      · rw [if_neg e1, oldLen_cut] at hn
        obtain ⟨n0, hn0, hn1⟩ := Option.map_eq_some_iff.1 hn
        exact fin n0 (by rw [Blk.len_cells, if_neg e1]; exact hn0) hn1.symm
  · intro g1 l2 g2 l3 e1 e2 hcb
    have key : ∀ g' l', ρ b g' = some l' → l'.cb = l1.cb → l1.s + l'.lo = l'.s + l1.lo := by
      intro g' l' f hcb
      rcases hcase with ⟨q1, q2⟩ | q
      · have := h.al b g' l' g0 l0 f hl0 (hcb.trans q1)
        omega
      · have := (h.dom b g' l' f).2; omega
    rcases Ren.set_inv e1 with ⟨_, _, rfl⟩ | f1 <;> rcases Ren.set_inv e2 with ⟨_, _, rfl⟩ | f2
    · omega
    · exact key g2 l3 f2 hcb.symm
    · have := key g1 l2 f1 hcb; omega
    · exact h.al b g1 l2 g2 l3 f1 f2 hcb
  · intro g1 l2 g0' e1 hx
    obtain ⟨_, _, _, _, hx⟩ := hx
    cases hx
    rcases Ren.set_inv e1 with ⟨_, rfl, _⟩ | f1
    · exact Nat.le_refl _
    · have := h.gen b g1 l2 g f1 ⟨_, _, _, _, hb⟩; omega

/-! ### The append itself -/
noncomputable def srcRow (H : Heap) (z : Nat) (a : Option AA) (n : Nat) : Option (List AV) :=
  match a with
  | some a => H.row a (Nat.mul n z)
  | none => br (Nat.beq n 0) (some []) none
noncomputable def Heap.grow (H : Heap) (e : TypeId) (a : AA) (k : Nat) (vs : List AV) : Option (Nat × Heap) :=
  match H.get a.b with
  | .cells e' g data old ro => br ro none (br (Nat.beq e e') (((Blk.cells e' g data old ro).len a.g).bind fun n => br (Nat.ble (Nat.add a.o k) n)
      (some (Nat.succ g, H.put a.b (.cells e (Nat.succ g) (data.take (Nat.add a.o k) ++ vs) (⟨g, br (Nat.ble data.length (Nat.add a.o k)) data.length (Nat.add a.o k)⟩ :: cutOld old (Nat.add a.o k)) false))) none) none)
  | _ => none
noncomputable def appendS (e : TypeId) (z bytes : Nat) (H : Heap) (s x : Sl) : Option (Sl × Heap) :=
  br (Nat.beq x.n 0) (br (Nat.ble s.n (s.c.low s.n)) (some (s, H)) none)
    ((srcRow H z x.a x.n).bind fun vs => br (allOne vs) (br (Nat.ble (Nat.mul (Nat.add s.n x.n) bytes) 140737488355328) (br (Nat.ble (Nat.add s.n x.n) 4294967296)
      (match s.c with
       | .known c => br (Nat.ble (Nat.add s.n x.n) c)
           (match s.a with
            | some a => (H.store ⟨a.b, a.g, Nat.add a.o (Nat.mul s.n z)⟩ vs).bind fun H' => some (⟨some a, Nat.add s.n x.n, .known c⟩, H')
            | none => none)
           ((srcRow H z s.a s.n).bind fun olds => match s.a with
            | some _ => some (⟨some ⟨H.size, 0, 0⟩, Nat.add s.n x.n, .unk z⟩, H.push (.cells e 0 (olds ++ vs) [] false))
            | none => br (Nat.beq c 0) (some (⟨some ⟨H.size, 0, 0⟩, Nat.add s.n x.n, .unk z⟩, H.push (.cells e 0 (olds ++ vs) [] false))) none)
       | .unk z' => br (Nat.beq z z') (match s.a with
            | some a => (H.grow e a (Nat.mul s.n z) vs).bind fun p => some (⟨some ⟨a.b, p.1, a.o⟩, Nat.add s.n x.n, .unk z⟩, p.2)
            | none => none) none) none) none) none)
noncomputable def appendK (P : Program) (ts : List TypeId) (args : List AV) (H : Heap) (K : AV → Heap → Option R) : Option R :=
  match ts with
  | [t, u] => br (Nat.beq t u) (match P.underlying t with
    | some (.slice e) => match P.info? e with
      | some i => match i.zero with
        | some zv => br (Nat.blt 0 i.size) (br (Nat.beq zv.cells.size i.size) (match args with
          | [.sl s, .sl x] => (appendS e i.size i.bytes H s x).bind fun p => K (.sl p.1) p.2
          | _ => none) none) none
        | none => none
      | none => none
    | _ => none) none
  | _ => none

theorem run_append_at {t tt e : TypeId} {i : TypeInfo} (ht : P.underlying t = some (.slice e)) (hi : P.info? e = some i) (base : Option Addr) (n c m : Nat) (x : Option Addr) (xc : Nat) (news : Array Value)
    (hf : (Builtin.firstCells i.size m (.slice x m xc)).run P w = .ok news w) (hroom : n + m ≤ c)
    (hst : ∀ a, base = some a → (storeCells (a.add (n * i.size)) news.toList).run P w = .ok () w') (hno : base = none → w' = w) :
    (Builtin.append_ #[t, t] tt #[.slice base n c, .slice x m xc]).run P w = .ok (.slice base (n + m) c) w' := by
  cases base with
  | none => rw [hno rfl]; simp [Builtin.append_, run_underlying ht, sizeOf, typeInfo, hi, Builtin.lenOf, hroom, hf]
  | some a => simp [Builtin.append_, run_underlying ht, sizeOf, typeInfo, hi, Builtin.lenOf, hroom, hf, hst a rfl]

theorem src_sound (hrep : Rep P w0 ρ H w) {z : Nat} {s : Sl} {vs : List AV} {v : Value} (hv : VR ρ (.sl s) v) (hs : srcRow H z s.a s.n = some vs) :
    ∃ (a : Option Addr) (cc : Nat) (news : List Value), v = .slice a s.n cc ∧ VRs ρ vs news ∧ news.length = s.n * z ∧ (∀ x, a = some x → ∀ (j : Nat) u, news[j]? = some u → w.cell? (x.add j) = some u) ∧ (a = none → news = []) := by
  obtain ⟨sa, sn, sc⟩ := s
  unfold srcRow at hs
  simp only at hs
  cases sa with
  | none =>
    obtain ⟨h1, h2⟩ := br_some hs
    cases h2
    have := Nat.eq_of_beq_eq_true h1
    subst this
    cases hv
    exact ⟨none, _, [], rfl, .nil, by simp, fun x e => by simp at e, fun _ => rfl⟩
  | some a =>
    have fin : ∀ (l : Loc) (cc : Nat), ρ a.b a.g = some l → l.lo ≤ a.o → v = .slice (some (l.at a.o)) sn cc →
        ∃ (ad : Option Addr) (cc : Nat) (news : List Value), v = .slice ad sn cc ∧ VRs ρ vs news ∧ news.length = sn * z ∧ (∀ x, ad = some x → ∀ (j : Nat) u, news[j]? = some u → w.cell? (x.add j) = some u) ∧ (ad = none → news = []) := by
      intro l cc hl hlo hvv
      obtain ⟨h1, vs', h2, h3, h4⟩ := hrep.rowCells hl hlo hs
      exact ⟨_, cc, vs', hvv, h2, h3, fun x e j u hu => by cases e; exact h4 j u hu, fun e => by cases e⟩
    cases hv with
    | sl n c hl hlo => exact fin _ _ hl hlo rfl
    | slU n c z' hl hlo _ _ => exact fin _ _ hl hlo rfl
    | slE x c hl hlo hc =>
      obtain ⟨h1, vs', h2, h3, h4⟩ := hrep.rowCells hl hlo hs
      have e0 : Nat.mul 0 z = 0 := Nat.zero_mul z
      rw [e0] at h3
      have : vs' = [] := List.eq_nil_of_length_eq_zero h3
      subst this
      exact ⟨some x, 0, [], rfl, h2, by simp, fun _ _ j u hu => by simp at hu, fun e => by cases e⟩
end
end Go.Ab
