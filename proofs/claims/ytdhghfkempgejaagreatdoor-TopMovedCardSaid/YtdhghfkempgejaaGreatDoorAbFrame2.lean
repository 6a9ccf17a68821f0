/- The abstract machine, 33: calls on a heap of what their arguments lead to, and what they give handed on. -/
import Derived.Test.YtdhghfkempgejaaGreatDoorAbFrame
namespace Go.Ab
open Go.RowKit

section
variable {P : Program} {gl : Gl} {w0 : World} {ρ ρ' : Ren} {H H' : Heap} {w w' : World}

/-- A block of the model's that no value of ours knows becomes a block of the heap. -/
theorem Rep.adopt (h : Rep P w0 ρ H w) {l : Loc} {x : Blk} (hl : l.cb < w.heap.size) (hfree : ∀ b g l', ρ b g = some l' → l'.cb ≠ l.cb) (hown : w0.heap.size ≤ l.cb) (hx : BlkRep P (ρ.set H.size 0 l) w l 0 x) :
    Rep P w0 (ρ.set H.size 0 l) (H.push x) w ∧ Ext ρ H (ρ.set H.size 0 l) (H.push x) := by
  have hle : ρ.le (ρ.set H.size 0 l) := Ren.le_set ρ l (h.fresh 0)
  have hget : ∀ c g l, ρ c g = some l → (H.push x).get c = H.get c := fun c g l e => Heap.get_push_old H x (h.dom c g l e).1
  refine ⟨⟨h.below, ?_, ?_, ?_, ?_, ?_, ?_⟩, hle, by simp, fun b hb hn => ⟨fun g => by rw [Ren.set_other ρ l (.inl (by omega))]; exact hn g, Heap.get_push_old H x hb⟩⟩
  · intro c g l' e
    rcases Ren.set_inv e with ⟨rfl, rfl, rfl⟩ | e
    · exact ⟨by simp, hl⟩
    · have := h.dom c g l' e; exact ⟨by simp; omega, this.2⟩
  · intro c g l1 c' g' l2 e e' hcb
    rcases Ren.set_inv e with ⟨k1, k2, k3⟩ | f <;> rcases Ren.set_inv e' with ⟨k1', k2', k3'⟩ | f'
    · exact .inl (k1.trans k1'.symm)
    · subst k3; exact absurd hcb.symm (hfree _ _ _ f')
    · subst k3'; exact absurd hcb (hfree _ _ _ f)
    · rw [hget c g l1 f, hget c' g' l2 f']; exact h.inj c g l1 c' g' l2 f f' hcb
  · intro c g l1 g' l2 e e' hcb
    rcases Ren.set_inv e with ⟨k1, k2, k3⟩ | f <;> rcases Ren.set_inv e' with ⟨k1', k2', k3'⟩ | f'
    · subst k3; subst k3'; omega
    · subst k3; exact absurd hcb.symm (hfree _ _ _ f')
    · subst k3'; exact absurd hcb (hfree _ _ _ f)
    · exact h.al c g l1 g' l2 f f' hcb
  · intro c g l1 g0 e he
    rcases Ren.set_inv e with ⟨rfl, rfl, rfl⟩ | e
    · exact Nat.zero_le _
    · rw [hget c g l1 e] at he; exact h.gen c g l1 g0 e he
  · intro c g l1 e
    rcases Ren.set_inv e with ⟨rfl, rfl, rfl⟩ | e
    · rw [Heap.get_push_new]; exact hx
    · rw [hget c g l1 e]; exact (h.blk c g l1 e).mono hle rfl
  · intro c g l1 e hr
    rcases Ren.set_inv e with ⟨rfl, rfl, rfl⟩ | e
    · exact hown
    · rw [hget c g l1 e] at hr; exact h.own c g l1 e hr

/-! ### Arguments -/
noncomputable def canon1 (H : Heap) (n : Nat) (v : AV) : Option (AV × List (List AV)) :=
  match v with
  | .sl s => match s.a with
    | none => br (flat1 v) (some (v, [])) none
    | some a => (H.row a s.n).bind fun l => br (flats1 l) (some (.sl ⟨some ⟨n, 0, 0⟩, s.n, s.c⟩, [l])) none
  | v => br (flat1 v) (some (v, [])) none
noncomputable def canonL (H : Heap) (l : List AV) : Nat → Option (List AV × List (List AV)) :=
  List.rec (fun _ => some ([], [])) (fun v _ ih n => (canon1 H n v).bind fun p => (ih (Nat.add n p.2.length)).bind fun q => some (p.1 :: q.1, p.2 ++ q.2)) l
noncomputable def canon2 (H : Heap) (n : Nat) (v : AV) : Option (AV × List (List AV)) :=
  match v with
  | .agg l => (canonL H l n).bind fun p => some (.agg p.1, p.2)
  | v => canon1 H n v
noncomputable def canonA (H : Heap) (l : List AV) : Nat → Option (List AV × List (List AV)) :=
  List.rec (fun _ => some ([], [])) (fun v _ ih n => (canon2 H n v).bind fun p => (ih (Nat.add n p.2.length)).bind fun q => some (p.1 :: q.1, p.2 ++ q.2)) l
noncomputable def pushRo (bs : List (List AV)) : Heap → Heap := List.rec (fun H => H) (fun l _ ih H => ih (H.push (.cells 0 0 l [] true))) bs

structure GoodRo (P : Program) (w : World) (l : Loc) (D : List AV) : Prop where
  lo : l.lo = 0
  room : l.s + D.length ≤ l.size
  cb : l.cb < w.heap.size
  ex : ∃ (c : Array Value) (fr : Nat × Nat) (e : TypeId), w.heap[l.cb]? = some (.cells c e fr) ∧ c.size = l.size ∧ ∀ o, o < D.length → ∃ v v', D[o]? = some v ∧ c[l.s + o]? = some v' ∧ ∀ ρ : Ren, VR ρ v v'

def Fits (P : Program) (w : World) (_ : Nat) (locs : List Loc) (bs : List (List AV)) : Prop :=
  locs.length = bs.length ∧ ∀ (i : Nat) l D, locs[i]? = some l → bs[i]? = some D → GoodRo P w l D
theorem Fits.append {n m : Nat} {a b : List Loc} {x y : List (List AV)} (h : Fits P w n a x) (k : Fits P w m b y) : Fits P w n (a ++ b) (x ++ y) := by
  refine ⟨by simp [h.1, k.1], fun i l D h1 h2 => ?_⟩
  rw [List.getElem?_append] at h1 h2
  rw [← h.1] at h2
  by_cases hi : i < a.length
  · rw [if_pos hi] at h1 h2; exact h.2 i l D h1 h2
  · rw [if_neg hi] at h1 h2; exact k.2 _ l D h1 h2

theorem flats1_mem : ∀ {l : List AV}, flats1 l = true → ∀ v ∈ l, flat1 v = true
  | [], _, v, hv => by cases hv
  | x :: l, h, v, hv => by
    have h' : br (flat1 x) (flats1 l) false = true := h
    cases hq : flat1 x with
    | false => rw [hq] at h'; cases h'
    | true =>
      rw [hq] at h'
      rcases List.mem_cons.1 hv with rfl | hv
      · exact hq
      · exact flats1_mem h' v hv

theorem canon1_rep (hrep : Rep P w0 ρ H w) {n : Nat} {v u : AV} {v' : Value} {bs : List (List AV)} (h : canon1 H n v = some (u, bs)) (hv : VR ρ v v') :
    ∃ locs, Fits P w n locs bs ∧ ∀ ρ2 : Ren, (∀ i l, locs[i]? = some l → ρ2 (n + i) 0 = some l) → VR ρ2 u v' := by
  have flat : ∀ v : AV, br (flat1 v) (some (v, ([] : List (List AV)))) none = some (u, bs) → VR ρ v v' → ∃ locs, Fits P w n locs bs ∧ ∀ ρ2 : Ren, (∀ i l, locs[i]? = some l → ρ2 (n + i) 0 = some l) → VR ρ2 u v' := by
    intro v h hv
    obtain ⟨h1, h2⟩ := br_some h
    cases h2
    exact ⟨[], ⟨rfl, fun i l D h1 _ => by simp at h1⟩, fun ρ2 _ => flat1_VR h1 hv⟩
  unfold canon1 at h
  split at h
  · rename_i s
    split at h
    · exact flat _ h hv
    · rename_i a ha
      obtain ⟨l, hl, h⟩ := bind_some h
      obtain ⟨hf, h⟩ := br_some h
      have h := Option.some.inj h
      have hu : u = .sl ⟨some ⟨n, 0, 0⟩, s.n, s.c⟩ := (congrArg Prod.fst h).symm
      have hb : bs = [l] := (congrArg Prod.snd h).symm
      have key : ∀ lc : Loc, ρ a.b a.g = some lc → lc.lo ≤ a.o → GoodRo P w ⟨lc.cb, 0, lc.s + (a.o - lc.lo), lc.size⟩ l := by
        intro lc hlc hlo
        obtain ⟨e, g0, data, old, ro, m, hx, hn, hk, rfl⟩ := row_some hl
        have hblk := hrep.blk a.b a.g lc hlc
        rw [hx] at hblk hn
        have hc := hblk m hn
        obtain ⟨c, fr, ⟨e', h1, _⟩, _, h3, h5⟩ := hc.ex
        have hle := hc.le
        have hroom := hc.room
        have hlen : ((data.drop a.o).take s.n).length = s.n := by simp; omega
        refine ⟨rfl, by show lc.s + (a.o - lc.lo) + _ ≤ _; rw [hlen]; show _ ≤ lc.size; omega, (hrep.dom _ _ _ hlc).2, c, fr, e', h1, h3, fun o ho => ?_⟩
        rw [hlen] at ho
        obtain ⟨v, v', q1, q2, q3⟩ := h5 (a.o + o) (by omega) (by omega)
        have q1' : ((data.drop a.o).take s.n)[o]? = some v := by rw [List.getElem?_take, if_pos ho, List.getElem?_drop]; exact q1
        refine ⟨v, v', q1', by rw [← q2]; congr 1; show lc.s + (a.o - lc.lo) + o = _; omega, fun ρ2 => flat1_VR (flats1_mem hf v (List.mem_of_getElem? q1')) q3⟩
      have fin : ∀ lc : Loc, GoodRo P w lc l → (∀ ρ2 : Ren, ρ2 n 0 = some lc → VR ρ2 (.sl ⟨some ⟨n, 0, 0⟩, s.n, s.c⟩) v') → ∃ locs, Fits P w n locs bs ∧ ∀ ρ2 : Ren, (∀ i l, locs[i]? = some l → ρ2 (n + i) 0 = some l) → VR ρ2 u v' := by
        intro lc hg hvr
        refine ⟨[lc], ⟨by rw [hb]; rfl, fun i l1 D h1 h2 => ?_⟩, fun ρ2 h2 => by rw [hu]; exact hvr ρ2 (h2 0 lc rfl)⟩
        rw [hb] at h2
        cases i with
        | zero => cases h1; cases h2; exact hg
        | succ i => simp at h1
      obtain ⟨sa, sn, sc⟩ := s
      simp only at ha
      subst ha
      have hat : ∀ lc : Loc, lc.lo ≤ a.o → (⟨lc.cb, 0, lc.s + (a.o - lc.lo), lc.size⟩ : Loc).at 0 = lc.at a.o := by
        intro lc hlo; rfl
      cases hv with
      | sl m c hlc hlo =>
        refine fin _ (key _ hlc hlo) fun ρ2 h2 => ?_
        rw [← hat _ hlo]
        exact VR.sl (a := ⟨n, 0, 0⟩) _ _ h2 (Nat.le_refl _)
      | slU m c z hlc hlo hmc hroom =>
        refine fin _ (key _ hlc hlo) fun ρ2 h2 => ?_
        rw [← hat _ hlo]
        exact VR.slU (a := ⟨n, 0, 0⟩) _ _ _ h2 (Nat.le_refl _) hmc (by show _ + (0 - 0) + _ ≤ _; simpa using hroom)
      | slE x c hlc hlo hcl =>
        refine fin _ (key _ hlc hlo) fun ρ2 h2 => ?_
        exact VR.slE (a := ⟨n, 0, 0⟩) _ _ h2 (Nat.le_refl _) hcl
  · exact flat _ h hv
theorem canonL_rep (hrep : Rep P w0 ρ H w) : ∀ {l : List AV} {n : Nat} {us : List AV} {vs' : List Value} {bs : List (List AV)}, canonL H l n = some (us, bs) → VRs ρ l vs' →
    ∃ locs, Fits P w n locs bs ∧ ∀ ρ2 : Ren, (∀ i l, locs[i]? = some l → ρ2 (n + i) 0 = some l) → VRs ρ2 us vs'
  | [], n, us, _, bs, h, .nil => by
    have h := Option.some.inj h
    cases h
    exact ⟨[], ⟨rfl, fun i l D h1 _ => by simp at h1⟩, fun ρ2 _ => .nil⟩
  | v :: l, n, us, _, bs, h, .cons (v' := v') (l' := l') a b => by
    have h' : ((canon1 H n v).bind fun p => (canonL H l (Nat.add n p.2.length)).bind fun q => some (p.1 :: q.1, p.2 ++ q.2)) = some (us, bs) := h
    obtain ⟨⟨u, b1⟩, h1, h'⟩ := bind_some h'
    obtain ⟨⟨us2, b2⟩, h2, h'⟩ := bind_some h'
    cases h'
    obtain ⟨l1, f1, g1⟩ := canon1_rep hrep h1 a
    obtain ⟨l2, f2, g2⟩ := canonL_rep hrep h2 b
    refine ⟨l1 ++ l2, f1.append f2, fun ρ2 hρ => .cons (g1 ρ2 fun i l hi => hρ i l ?_) (g2 ρ2 fun i l hi => ?_)⟩
    · rw [List.getElem?_append_left (List.getElem?_eq_some_iff.1 hi).1]; exact hi
    · have := hρ (b1.length + i) l (by rw [List.getElem?_append_right (by rw [f1.1]; omega), f1.1]; simpa using hi)
      rw [← this]; congr 1; show n + b1.length + i = _; omega
theorem canon2_rep (hrep : Rep P w0 ρ H w) {n : Nat} {v u : AV} {v' : Value} {bs : List (List AV)} (h : canon2 H n v = some (u, bs)) (hv : VR ρ v v') :
    ∃ locs, Fits P w n locs bs ∧ ∀ ρ2 : Ren, (∀ i l, locs[i]? = some l → ρ2 (n + i) 0 = some l) → VR ρ2 u v' := by
  unfold canon2 at h
  split at h
  · obtain ⟨⟨us, b1⟩, h1, h⟩ := bind_some h
    cases h
    cases hv with
    | agg hq =>
      obtain ⟨l1, f1, g1⟩ := canonL_rep hrep h1 hq
      exact ⟨l1, f1, fun ρ2 hρ => .agg (g1 ρ2 hρ)⟩
  · exact canon1_rep hrep h hv
theorem canonA_rep (hrep : Rep P w0 ρ H w) : ∀ {l : List AV} {n : Nat} {us : List AV} {vs' : List Value} {bs : List (List AV)}, canonA H l n = some (us, bs) → VRs ρ l vs' →
    ∃ locs, Fits P w n locs bs ∧ ∀ ρ2 : Ren, (∀ i l, locs[i]? = some l → ρ2 (n + i) 0 = some l) → VRs ρ2 us vs'
  | [], n, us, _, bs, h, .nil => by
    have h := Option.some.inj h
    cases h
    exact ⟨[], ⟨rfl, fun i l D h1 _ => by simp at h1⟩, fun ρ2 _ => .nil⟩
  | v :: l, n, us, _, bs, h, .cons (v' := v') (l' := l') a b => by
    have h' : ((canon2 H n v).bind fun p => (canonA H l (Nat.add n p.2.length)).bind fun q => some (p.1 :: q.1, p.2 ++ q.2)) = some (us, bs) := h
    obtain ⟨⟨u, b1⟩, h1, h'⟩ := bind_some h'
    obtain ⟨⟨us2, b2⟩, h2, h'⟩ := bind_some h'
    cases h'
    obtain ⟨l1, f1, g1⟩ := canon2_rep hrep h1 a
    obtain ⟨l2, f2, g2⟩ := canonA_rep hrep h2 b
    refine ⟨l1 ++ l2, f1.append f2, fun ρ2 hρ => .cons (g1 ρ2 fun i l hi => hρ i l ?_) (g2 ρ2 fun i l hi => ?_)⟩
    · rw [List.getElem?_append_left (List.getElem?_eq_some_iff.1 hi).1]; exact hi
    · have := hρ (b1.length + i) l (by rw [List.getElem?_append_right (by rw [f1.1]; omega), f1.1]; simpa using hi)
      rw [← this]; congr 1; show n + b1.length + i = _; omega
end
end Go.Ab
