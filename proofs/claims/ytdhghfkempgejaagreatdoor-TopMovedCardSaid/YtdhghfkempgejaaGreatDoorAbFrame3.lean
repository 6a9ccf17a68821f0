/- The abstract machine, 34: the frame's heap is represented; what a call gives is handed on. -/
import Derived.Test.YtdhghfkempgejaaGreatDoorAbFrame2
namespace Go.Ab
open Go.RowKit

section
variable {P : Program} {gl : Gl} {w0 : World} {ρ ρ' : Ren} {H H' : Heap} {w w' : World}

theorem pushRo_size : ∀ (bs : List (List AV)) (H : Heap), (pushRo bs H).size = H.size + bs.length
  | [], _ => rfl
  | l :: bs, H => by
    show (pushRo bs (H.push _)).size = _
    rw [pushRo_size bs]; simp; omega
theorem pushRo_old : ∀ (bs : List (List AV)) (H : Heap) {b : Nat}, b < H.size → (pushRo bs H).get b = H.get b
  | [], _, _, _ => rfl
  | l :: bs, H, b, h => by
    show (pushRo bs (H.push _)).get b = _
    rw [pushRo_old bs _ (by simp; omega), Heap.get_push_old H _ h]
theorem pushRo_new : ∀ (bs : List (List AV)) (H : Heap) {i : Nat} {D : List AV}, bs[i]? = some D → (pushRo bs H).get (H.size + i) = .cells 0 0 D [] true
  | [], _, i, D, h => by simp at h
  | l :: bs, H, 0, D, h => by
    show (pushRo bs (H.push _)).get _ = _
    rw [pushRo_old bs _ (by simp)]
    simp at h; subst h
    exact Heap.get_push_new H _
  | l :: bs, H, i + 1, D, h => by
    show (pushRo bs (H.push _)).get _ = _
    have := pushRo_new bs (H.push (.cells 0 0 l [] true)) (i := i) (D := D) (by simpa using h)
    rw [← this]; congr 1; simp; omega

def ρFrame (ρg : Ren) (n : Nat) (locs : List Loc) : Ren := fun b g => if b < n then ρg b g else if g = 0 then locs[b - n]? else none

theorem frame_rep {ρg : World → Ren} {Hg : Heap} (hb : Base P gl ρg Hg) (hW : gl.W w) {locs : List Loc} {bs : List (List AV)} (hf : Fits P w Hg.size locs bs) :
    Rep P w (ρFrame (ρg w) Hg.size locs) (pushRo bs Hg) w ∧ GlobOK gl w (ρFrame (ρg w) Hg.size locs) := by
  have hr := hb.rep w hW
  have hle : (ρg w).le (ρFrame (ρg w) Hg.size locs) := fun b g l e => by
    unfold ρFrame; rw [if_pos (hr.dom b g l e).1]; exact e
  have hinv : ∀ b g l, ρFrame (ρg w) Hg.size locs b g = some l → (b < Hg.size ∧ ρg w b g = some l) ∨ (∃ i D, b = Hg.size + i ∧ g = 0 ∧ locs[i]? = some l ∧ bs[i]? = some D ∧ GoodRo P w l D) := by
    intro b g l e
    unfold ρFrame at e
    split at e
    · rename_i h; exact .inl ⟨h, e⟩
    · rename_i h
      split at e
      · rename_i h0
        have hi : b - Hg.size < bs.length := by rw [← hf.1]; exact (List.getElem?_eq_some_iff.1 e).1
        exact .inr ⟨b - Hg.size, bs[b - Hg.size], by omega, h0, e, List.getElem?_eq_getElem hi, hf.2 _ _ _ e (List.getElem?_eq_getElem hi)⟩
      · cases e
  have hro : ∀ b g l, ρFrame (ρg w) Hg.size locs b g = some l → ((pushRo bs Hg).get b).ro = true := by
    intro b g l e
    rcases hinv b g l e with ⟨h1, h2⟩ | ⟨i, D, rfl, rfl, h1, h2, h3⟩
    · rw [pushRo_old bs Hg h1]
      cases hq : (Hg.get b).ro with
      | true => rfl
      | false => have := hr.own b g l h2 hq; have := (hr.dom b g l h2).2; omega
    · rw [pushRo_new bs Hg h2]; rfl
  refine ⟨⟨⟨rfl, rfl, rfl, Nat.le_refl _, fun _ _ => rfl⟩, ?_, ?_, ?_, ?_, ?_, ?_⟩, ⟨hW, fun g hg => let ⟨l, a, b⟩ := (hb.glob w hW).2 g hg; ⟨l, hle _ _ _ a, b⟩⟩⟩
  · intro b g l e
    rw [pushRo_size]
    rcases hinv b g l e with ⟨h1, h2⟩ | ⟨i, D, rfl, rfl, h1, h2, h3⟩
    · exact ⟨by omega, (hr.dom b g l h2).2⟩
    · have := (List.getElem?_eq_some_iff.1 h2).1; exact ⟨by omega, h3.cb⟩
  · intro b g l b' g' l' e e' _
    exact .inr ⟨hro b g l e, hro b' g' l' e'⟩
  · intro b g l g' l' e e' hcb
    rcases hinv b g l e with ⟨h1, h2⟩ | ⟨i, D, h0, rfl, h1, h2, h3⟩ <;> rcases hinv b g' l' e' with ⟨h1', h2'⟩ | ⟨i', D', h0', rfl, h1', h2', h3'⟩
    · exact hr.al b g l g' l' h2 h2' hcb
    · omega
    · omega
    · have : i = i' := by omega
      subst this
      rw [h1] at h1'; cases h1'; omega
  · intro b g l g0 e he
    rcases hinv b g l e with ⟨h1, h2⟩ | ⟨i, D, rfl, rfl, h1, h2, h3⟩
    · rw [pushRo_old bs Hg h1] at he; exact hr.gen b g l g0 h2 he
    · exact Nat.zero_le _
  · intro b g l e
    rcases hinv b g l e with ⟨h1, h2⟩ | ⟨i, D, rfl, rfl, h1, h2, h3⟩
    · rw [pushRo_old bs Hg h1]; exact (hr.blk b g l h2).mono hle rfl
    · rw [pushRo_new bs Hg h2]
      intro n hn
      rw [Blk.len_cells, if_pos rfl] at hn
      cases hn
      obtain ⟨c, fr, e, k1, k2, k3⟩ := h3.ex
      refine ⟨Nat.le_refl _, by rw [h3.lo]; have := h3.room; omega, c, fr, ⟨e, k1, (fun h => by cases h)⟩, (fun h => by cases h), k2, fun o _ ho => ?_⟩
      obtain ⟨v, v', q1, q2, q3⟩ := k3 o ho
      exact ⟨v, v', q1, by rw [h3.lo]; exact q2, q3 _⟩
  · intro b g l e hr'
    rw [hro b g l e] at hr'; cases hr'

/-! ### What is handed on -/
noncomputable def flatsE (es : List ME) : Bool := List.rec true (fun e _ ih => br (flat1 e.k) (br (flat1 e.v) ih false) false) es
theorem flatsE_rep {es : List ME} {es' : List MapEntry} (h : EntriesRep ρ es es') : flatsE es = true → EntriesRep ρ' es es' := by
  induction h with
  | nil => intro _; exact .nil
  | @cons x y l l' a b ih =>
    intro hf
    have h' : br (flat1 x.k) (br (flat1 x.v) (flatsE l) false) false = true := hf
    cases h1 : flat1 x.k with
    | false => rw [h1] at h'; cases h'
    | true =>
      cases h2 : flat1 x.v with
      | false => rw [h1, h2] at h'; cases h'
      | true =>
        rw [h1, h2] at h'
        exact .cons ⟨flat1_VR h1 a.k, flat1_VR h2 a.v, a.born⟩ (ih h')

noncomputable def giveC (x : Blk) (g : Nat) (K : Blk → Option (AV × List (Nat × Blk))) : Option (AV × List (Nat × Blk)) :=
  match x with
  | .cells e g0 data _ ro => br ro none (br (Nat.beq g0 g) (br (flats1 data) (K (.cells e 0 data [] false)) none) none)
  | _ => none
noncomputable def giveM (x : Blk) (K : Blk → Option (AV × List (Nat × Blk))) : Option (AV × List (Nat × Blk)) :=
  match x with
  | .map es c => br (flatsE es) (K (.map es c)) none
  | _ => none
noncomputable def give1 (H1 : Heap) (n : Nat) (v : AV) : Option (AV × List (Nat × Blk)) :=
  match v with
  | .sl s => match s.a with
    | none => br (flat1 v) (some (v, [])) none
    | some a => giveC (H1.get a.b) a.g fun x => some (.sl ⟨some ⟨n, 0, a.o⟩, s.n, s.c⟩, [(a.b, x)])
  | .map o => match o with
    | none => some (v, [])
    | some k => giveM (H1.get k) fun x => some (.map (some n), [(k, x)])
  | v => br (flat1 v) (some (v, [])) none
noncomputable def giveL (H1 : Heap) (l : List AV) : Nat → Option (List AV × List (Nat × Blk)) :=
  List.rec (fun _ => some ([], [])) (fun v _ ih n => (give1 H1 n v).bind fun p => (ih (Nat.add n p.2.length)).bind fun q => some (p.1 :: q.1, p.2 ++ q.2)) l
noncomputable def give2 (H1 : Heap) (n : Nat) (v : AV) : Option (AV × List (Nat × Blk)) :=
  match v with
  | .agg l => (giveL H1 l n).bind fun p => some (.agg p.1, p.2)
  | v => give1 H1 n v
noncomputable def giveA (H1 : Heap) (l : List AV) : Nat → Option (List AV × List (Nat × Blk)) :=
  List.rec (fun _ => some ([], [])) (fun v _ ih n => (give2 H1 n v).bind fun p => (ih (Nat.add n p.2.length)).bind fun q => some (p.1 :: q.1, p.2 ++ q.2)) l
noncomputable def give3 (H1 : Heap) (n : Nat) (v : AV) : Option (AV × List (Nat × Blk)) :=
  match v with
  | .tuple l => (giveA H1 l n).bind fun p => some (.tuple p.1, p.2)
  | v => give2 H1 n v
noncomputable def pushB (bs : List (Nat × Blk)) : Heap → Heap := List.rec (fun H => H) (fun x _ ih H => ih (H.push x.2)) bs
noncomputable def nodupN (bs : List (Nat × Blk)) : Bool := List.rec true (fun x l ih => br (List.rec false (fun y _ ih => br (Nat.beq x.1 y.1) true ih) l) false ih) bs

/-- What the blocks that are handed on are to the model. -/
structure Given (P : Program) (w : World) (ρ1 : Ren) (H1 : Heap) (w' : World) (x : Nat × Blk) (l : Loc) : Prop where
  known : ∃ g, ρ1 x.1 g = some l
  cb : l.cb < w'.heap.size
  own : w.heap.size ≤ l.cb
  blk : ∀ ρ' : Ren, BlkRep P ρ' w' l 0 x.2
  ro : x.2.ro = false
  nro : (H1.get x.1).ro = false
def Gives (P : Program) (w : World) (ρ1 : Ren) (H1 : Heap) (w' : World) (bs : List (Nat × Blk)) (locs : List Loc) : Prop :=
  locs.length = bs.length ∧ ∀ (i : Nat) x l, bs[i]? = some x → locs[i]? = some l → Given P w ρ1 H1 w' x l
theorem Gives.nil {ρ1 : Ren} {H1 : Heap} : Gives P w ρ1 H1 w' [] [] := ⟨rfl, fun i x l h _ => by simp at h⟩
theorem Gives.one {ρ1 : Ren} {H1 : Heap} {x : Nat × Blk} {l : Loc} (h : Given P w ρ1 H1 w' x l) : Gives P w ρ1 H1 w' [x] [l] := ⟨rfl, fun i y l' h1 h2 => by
  cases i with
  | zero => cases h1; cases h2; exact h
  | succ i => simp at h1⟩
theorem Gives.append {ρ1 : Ren} {H1 : Heap} {a b : List Loc} {x y : List (Nat × Blk)} (h : Gives P w ρ1 H1 w' x a) (k : Gives P w ρ1 H1 w' y b) : Gives P w ρ1 H1 w' (x ++ y) (a ++ b) := by
  refine ⟨by simp [h.1, k.1], fun i z l h1 h2 => ?_⟩
  rw [List.getElem?_append] at h1 h2
  rw [h.1] at h2
  by_cases hi : i < x.length
  · rw [if_pos hi] at h1 h2; exact h.2 i z l h1 h2
  · rw [if_neg hi] at h1 h2; exact k.2 _ z l h1 h2

section
variable {ρ1 : Ren} {H1 : Heap}
theorem give1_rep (hrep : Rep P w ρ1 H1 w') {n : Nat} {v u : AV} {v' : Value} {bs : List (Nat × Blk)} (h : give1 H1 n v = some (u, bs)) (hv : VR ρ1 v v') :
    ∃ locs, Gives P w ρ1 H1 w' bs locs ∧ ∀ ρ2 : Ren, (∀ i l, locs[i]? = some l → ρ2 (n + i) 0 = some l) → VR ρ2 u v' := by
  have flat : ∀ v : AV, br (flat1 v) (some (v, ([] : List (Nat × Blk)))) none = some (u, bs) → VR ρ1 v v' → ∃ locs, Gives P w ρ1 H1 w' bs locs ∧ ∀ ρ2 : Ren, (∀ i l, locs[i]? = some l → ρ2 (n + i) 0 = some l) → VR ρ2 u v' := by
    intro v h hv
    obtain ⟨h1, h2⟩ := br_some h
    cases h2
    exact ⟨[], .nil, fun ρ2 _ => flat1_VR h1 hv⟩
  unfold give1 at h
  split at h
  · rename_i s
    split at h
    · exact flat _ h hv
    · rename_i a ha
      unfold giveC at h
      split at h
      · rename_i e g0 data old ro hx
        obtain ⟨hro, h⟩ := br_some' h
        obtain ⟨hg, h⟩ := br_some h
        obtain ⟨hf, h⟩ := br_some h
        have hg := Nat.eq_of_beq_eq_true hg
        have h := Option.some.inj h
        have hu : u = .sl ⟨some ⟨n, 0, a.o⟩, s.n, s.c⟩ := (congrArg Prod.fst h).symm
        have hb : bs = [(a.b, .cells e 0 data [] false)] := (congrArg Prod.snd h).symm
        have key : ∀ l, ρ1 a.b a.g = some l → Given P w ρ1 H1 w' (a.b, .cells e 0 data [] false) l := by
          intro l hl
          refine ⟨⟨a.g, hl⟩, (hrep.dom _ _ _ hl).2, hrep.own _ _ _ hl (by rw [hx]; exact hro), fun ρ2 => ?_, rfl, by rw [hx]; exact hro⟩
          have hblk := hrep.blk _ _ _ hl
          rw [hx] at hblk
          intro m hm
          rw [Blk.len_cells, if_pos rfl] at hm
          cases hm
          have hc := hblk data.length (by rw [Blk.len_cells, if_pos hg])
          obtain ⟨c, fr, ⟨e', k1, k2⟩, k3, k4, k5⟩ := hc.ex
          refine ⟨hc.le, hc.room, c, fr, ⟨e', k1, fun _ => k2 hro⟩, fun _ => k3 hro, k4, fun o q1 q2 => ?_⟩
          obtain ⟨v, v', r1, r2, r3⟩ := k5 o q1 q2
          exact ⟨v, v', r1, r2, flat1_VR (flats1_mem hf v (List.mem_of_getElem? r1)) r3⟩
        have fin : ∀ l, ρ1 a.b a.g = some l → (∀ ρ2 : Ren, ρ2 n 0 = some l → VR ρ2 (.sl ⟨some ⟨n, 0, a.o⟩, s.n, s.c⟩) v') → ∃ locs, Gives P w ρ1 H1 w' bs locs ∧ ∀ ρ2 : Ren, (∀ i l, locs[i]? = some l → ρ2 (n + i) 0 = some l) → VR ρ2 u v' := by
          intro l hl hvr
          refine ⟨[l], by rw [hb]; exact .one (key l hl), fun ρ2 h2 => ?_⟩
          rw [hu]; exact hvr ρ2 (h2 0 l rfl)
        obtain ⟨sa, sn, sc⟩ := s
        simp only at ha
        subst ha
        cases hv with
        | sl m c hl hlo => exact fin _ hl fun ρ2 h2 => VR.sl (a := ⟨n, 0, a.o⟩) _ _ h2 hlo
        | slU m c z hl hlo hmc hroom => exact fin _ hl fun ρ2 h2 => VR.slU (a := ⟨n, 0, a.o⟩) _ _ _ h2 hlo hmc hroom
        | slE x c hl hlo hcl => exact fin _ hl fun ρ2 h2 => VR.slE (a := ⟨n, 0, a.o⟩) _ _ h2 hlo hcl
      · cases h
  · rename_i o
    split at h
    · cases h
      cases hv
      exact ⟨[], .nil, fun ρ2 _ => .nilMap⟩
    · rename_i k
      unfold giveM at h
      split at h
      · rename_i es c hx
        obtain ⟨hf, h⟩ := br_some h
        have h := Option.some.inj h
        have hu : u = .map (some n) := (congrArg Prod.fst h).symm
        have hb : bs = [(k, .map es c)] := (congrArg Prod.snd h).symm
        cases hv with
        | map hl =>
          rename_i l
          refine ⟨[l], by
            rw [hb]
            refine .one ⟨⟨0, hl⟩, (hrep.dom _ _ _ hl).2, hrep.own _ _ _ hl (by rw [hx]; rfl), fun ρ2 => ?_, rfl, by rw [hx]; rfl⟩
            obtain ⟨es', k1, k2⟩ := hrep.mapBlk hl hx
            exact ⟨rfl, es', k1, flatsE_rep k2 hf⟩, fun ρ2 h2 => ?_⟩
          rw [hu]; exact .map (h2 0 l rfl)
      · cases h
  · exact flat _ h hv
theorem giveL_rep (hrep : Rep P w ρ1 H1 w') : ∀ {l : List AV} {n : Nat} {us : List AV} {vs' : List Value} {bs : List (Nat × Blk)}, giveL H1 l n = some (us, bs) → VRs ρ1 l vs' →
    ∃ locs, Gives P w ρ1 H1 w' bs locs ∧ ∀ ρ2 : Ren, (∀ i l, locs[i]? = some l → ρ2 (n + i) 0 = some l) → VRs ρ2 us vs'
  | [], n, us, _, bs, h, .nil => by
    have h := Option.some.inj h
    cases h
    exact ⟨[], .nil, fun ρ2 _ => .nil⟩
  | v :: l, n, us, _, bs, h, .cons (v' := v') (l' := l') a b => by
    have h' : ((give1 H1 n v).bind fun p => (giveL H1 l (Nat.add n p.2.length)).bind fun q => some (p.1 :: q.1, p.2 ++ q.2)) = some (us, bs) := h
    obtain ⟨⟨u, b1⟩, h1, h'⟩ := bind_some h'
    obtain ⟨⟨us2, b2⟩, h2, h'⟩ := bind_some h'
    cases h'
    obtain ⟨l1, f1, g1⟩ := give1_rep hrep h1 a
    obtain ⟨l2, f2, g2⟩ := giveL_rep hrep h2 b
    refine ⟨l1 ++ l2, f1.append f2, fun ρ2 hρ => .cons (g1 ρ2 fun i l hi => hρ i l ?_) (g2 ρ2 fun i l hi => ?_)⟩
    · rw [List.getElem?_append_left (List.getElem?_eq_some_iff.1 hi).1]; exact hi
    · have := hρ (b1.length + i) l (by rw [List.getElem?_append_right (by rw [f1.1]; omega), f1.1]; simpa using hi)
      rw [← this]; congr 1; show n + b1.length + i = _; omega
theorem give2_rep (hrep : Rep P w ρ1 H1 w') {n : Nat} {v u : AV} {v' : Value} {bs : List (Nat × Blk)} (h : give2 H1 n v = some (u, bs)) (hv : VR ρ1 v v') :
    ∃ locs, Gives P w ρ1 H1 w' bs locs ∧ ∀ ρ2 : Ren, (∀ i l, locs[i]? = some l → ρ2 (n + i) 0 = some l) → VR ρ2 u v' := by
  unfold give2 at h
  split at h
  · obtain ⟨⟨us, b1⟩, h1, h⟩ := bind_some h
    cases h
    cases hv with
    | agg hq =>
      obtain ⟨l1, f1, g1⟩ := giveL_rep hrep h1 hq
      exact ⟨l1, f1, fun ρ2 hρ => .agg (g1 ρ2 hρ)⟩
  · exact give1_rep hrep h hv
theorem giveA_rep (hrep : Rep P w ρ1 H1 w') : ∀ {l : List AV} {n : Nat} {us : List AV} {vs' : List Value} {bs : List (Nat × Blk)}, giveA H1 l n = some (us, bs) → VRs ρ1 l vs' →
    ∃ locs, Gives P w ρ1 H1 w' bs locs ∧ ∀ ρ2 : Ren, (∀ i l, locs[i]? = some l → ρ2 (n + i) 0 = some l) → VRs ρ2 us vs'
  | [], n, us, _, bs, h, .nil => by
    have h := Option.some.inj h
    cases h
    exact ⟨[], .nil, fun ρ2 _ => .nil⟩
  | v :: l, n, us, _, bs, h, .cons (v' := v') (l' := l') a b => by
    have h' : ((give2 H1 n v).bind fun p => (giveA H1 l (Nat.add n p.2.length)).bind fun q => some (p.1 :: q.1, p.2 ++ q.2)) = some (us, bs) := h
    obtain ⟨⟨u, b1⟩, h1, h'⟩ := bind_some h'
    obtain ⟨⟨us2, b2⟩, h2, h'⟩ := bind_some h'
    cases h'
    obtain ⟨l1, f1, g1⟩ := give2_rep hrep h1 a
    obtain ⟨l2, f2, g2⟩ := giveA_rep hrep h2 b
    refine ⟨l1 ++ l2, f1.append f2, fun ρ2 hρ => .cons (g1 ρ2 fun i l hi => hρ i l ?_) (g2 ρ2 fun i l hi => ?_)⟩
    · rw [List.getElem?_append_left (List.getElem?_eq_some_iff.1 hi).1]; exact hi
    · have := hρ (b1.length + i) l (by rw [List.getElem?_append_right (by rw [f1.1]; omega), f1.1]; simpa using hi)
      rw [← this]; congr 1; show n + b1.length + i = _; omega
theorem give3_rep (hrep : Rep P w ρ1 H1 w') {n : Nat} {v u : AV} {v' : Value} {bs : List (Nat × Blk)} (h : give3 H1 n v = some (u, bs)) (hv : VR ρ1 v v') :
    ∃ locs, Gives P w ρ1 H1 w' bs locs ∧ ∀ ρ2 : Ren, (∀ i l, locs[i]? = some l → ρ2 (n + i) 0 = some l) → VR ρ2 u v' := by
  unfold give3 at h
  split at h
  · obtain ⟨⟨us, b1⟩, h1, h⟩ := bind_some h
    cases h
    cases hv with
    | tuple hq =>
      obtain ⟨l1, f1, g1⟩ := giveA_rep hrep h1 hq
      exact ⟨l1, f1, fun ρ2 hρ => .tuple (g1 ρ2 hρ)⟩
  · exact give2_rep hrep h hv

theorem nodupN_spec : ∀ {bs : List (Nat × Blk)}, nodupN bs = true → ∀ (i j : Nat) x y, bs[i]? = some x → bs[j]? = some y → i < j → x.1 ≠ y.1
  | [], _, i, j, x, y, h, _, _ => by simp at h
  | z :: l, hn, i, j, x, y, h1, h2, hij => by
    have hn' : br (List.rec false (fun y _ ih => br (Nat.beq z.1 y.1) true ih) l) false (nodupN l) = true := hn
    have key : ∀ (l : List (Nat × Blk)), (List.rec false (fun y _ ih => br (Nat.beq z.1 y.1) true ih) l : Bool) = false → ∀ y ∈ l, z.1 ≠ y.1 := by
      intro l
      induction l with
      | nil => intro _ y hy; cases hy
      | cons a l ih =>
        intro h y hy
        have h' : br (Nat.beq z.1 a.1) true (List.rec false (fun y _ ih => br (Nat.beq z.1 y.1) true ih) l) = false := h
        cases hq : Nat.beq z.1 a.1 with
        | true => rw [hq] at h'; cases h'
        | false =>
          rw [hq] at h'
          rcases List.mem_cons.1 hy with rfl | hy
          · exact Nat.ne_of_beq_eq_false hq
          · exact ih h' y hy
    cases hq : (List.rec false (fun y _ ih => br (Nat.beq z.1 y.1) true ih) l : Bool) with
    | true => rw [hq] at hn'; cases hn'
    | false =>
      rw [hq, br_false] at hn'
      obtain ⟨j, rfl⟩ : ∃ k, j = k + 1 := ⟨j - 1, by omega⟩
      cases i with
      | zero =>
        cases h1
        exact key l hq y (List.mem_of_getElem? (by simpa using h2))
      | succ i => exact nodupN_spec hn' i j x y (by simpa using h1) (by simpa using h2) (by omega)

theorem give_push {hiCb : Nat} : ∀ {bs : List (Nat × Blk)} {locs : List Loc} {ρ : Ren} {H : Heap}, Rep P w0 ρ H w' → (∀ (i : Nat) (x : Nat × Blk) (l : Loc), bs[i]? = some x → locs[i]? = some l → l.cb < w'.heap.size ∧ w0.heap.size ≤ l.cb ∧ (∀ ρ' : Ren, BlkRep P ρ' w' l 0 x.2) ∧ hiCb ≤ l.cb) → locs.length = bs.length →
    (∀ (i j : Nat) (l l' : Loc), locs[i]? = some l → locs[j]? = some l' → i < j → l.cb ≠ l'.cb) → (∀ b g l, ρ b g = some l → ∀ (i : Nat) (l' : Loc), locs[i]? = some l' → l.cb ≠ l'.cb) →
    ∃ ρ2, Ext ρ H ρ2 (pushB bs H) ∧ Rep P w0 ρ2 (pushB bs H) w' ∧ ∀ (i : Nat) (l : Loc), locs[i]? = some l → ρ2 (H.size + i) 0 = some l
  | [], [], ρ, H, hrep, _, _, _, _ => ⟨ρ, Ext.refl _ _, hrep, fun i l h => by simp at h⟩
  | x :: bs, l :: locs, ρ, H, hrep, hg, hlen, hd, hfar => by
    obtain ⟨g1, g2, g3, g4⟩ := hg 0 x l rfl rfl
    have hset := hrep.adopt (l := l) (x := x.2) g1 (fun b g l' e => hfar b g l' e 0 l rfl) g2 (g3 _)
    obtain ⟨ρ2, a1, a2, a3⟩ := give_push (hiCb := hiCb) (bs := bs) (locs := locs) hset.1 (fun i y l' h1 h2 => hg (i + 1) y l' (by simpa using h1) (by simpa using h2)) (by simpa using hlen)
      (fun i j l1 l2 h1 h2 h3 => hd (i + 1) (j + 1) l1 l2 (by simpa using h1) (by simpa using h2) (by omega))
      (fun b g l1 e i l2 h2 => by
        rcases Ren.set_inv e with ⟨_, _, rfl⟩ | e
        · exact hd 0 (i + 1) l1 l2 rfl (by simpa using h2) (by omega)
        · exact hfar b g l1 e (i + 1) l2 (by simpa using h2))
    refine ⟨ρ2, hset.2.trans a1, a2, fun i l1 h1 => ?_⟩
    cases i with
    | zero =>
      cases h1
      exact a1.le _ _ _ (Ren.set_same ρ _ _ _)
    | succ i =>
      have := a3 i l1 (by simpa using h1)
      rw [← this]; congr 1; simp; omega
  | [], _ :: _, _, _, _, _, h, _, _ => by simp at h
  | _ :: _, [], _, _, _, _, h, _, _ => by simp at h
end

/-- A call on a heap of what its arguments lead to. -/
noncomputable def frameG (Hg : Heap) (run : Run) : Run := fun F args H =>
  (canonA H args Hg.size).bind fun c => (run F c.1 (pushRo c.2 Hg)).bind fun p => (give3 p.2 H.size p.1).bind fun q => br (nodupN q.2) (some (q.1, pushB q.2 H)) none
theorem EntryOK.frameG {f : FuncId} {run : Run} {ρg : World → Ren} {Hg : Heap} (hb : Base P gl ρg Hg) (h : EntryOK P gl f run) : EntryOK P gl f (frameG Hg run) := by
  intro F hF args H v H' hr
  obtain ⟨⟨us, bs⟩, hc, hr⟩ := bind_some hr
  obtain ⟨⟨v1, H1⟩, h1, hr⟩ := bind_some hr
  obtain ⟨⟨v2, gs⟩, h2, hr⟩ := bind_some hr
  obtain ⟨hnd, hr⟩ := br_some hr
  have hr := Option.some.inj hr
  have hv : v = v2 := (congrArg Prod.fst hr).symm
  have hH : H' = pushB gs H := (congrArg Prod.snd hr).symm
  obtain ⟨hcall, hs⟩ := h F hF us (pushRo bs Hg) v1 H1 h1
  refine ⟨hcall, fun w0 ρ w args' hrep hargs hgl => ?_⟩
  have hW : gl.W w := hb.stays w0 w hgl.1 hrep.below
  obtain ⟨locs, hfit, hus⟩ := canonA_rep hrep hc hargs
  obtain ⟨hfr, hgl2⟩ := frame_rep hb hW hfit
  have hus' := hus (ρFrame (ρg w) Hg.size locs) (fun i l hi => by unfold ρFrame; rw [if_neg (by omega), if_pos rfl]; simpa using hi)
  refine (hs w _ w args' hfr hus' hgl2).mono ?_
  rintro e w' ⟨ρ1, v', rfl, _, hr1, hv1⟩
  obtain ⟨gl1, hgv, hvr⟩ := give3_rep hr1 h2 hv1
  have hlat := hrep.later hr1.below
  have hd : ∀ (i j : Nat) l l', gl1[i]? = some l → gl1[j]? = some l' → i < j → l.cb ≠ l'.cb := by
    intro i j l l' hi hj hij e
    have bi : i < gs.length := by rw [← hgv.1]; exact (List.getElem?_eq_some_iff.1 hi).1
    have bj : j < gs.length := by rw [← hgv.1]; exact (List.getElem?_eq_some_iff.1 hj).1
    have gi := hgv.2 i _ l (List.getElem?_eq_getElem bi) hi
    have gj := hgv.2 j _ l' (List.getElem?_eq_getElem bj) hj
    obtain ⟨a, ha⟩ := gi.known
    obtain ⟨b, hb'⟩ := gj.known
    have hne := nodupN_spec hnd i j _ _ (List.getElem?_eq_getElem bi) (List.getElem?_eq_getElem bj) hij
    rcases hr1.inj _ _ _ _ _ _ ha hb' e with q | ⟨q, _⟩
    · exact hne q
    · rw [gi.nro] at q; cases q
  obtain ⟨ρ2, a1, a2, a3⟩ := give_push (hiCb := w.heap.size) (bs := gs) (locs := gl1) hlat (fun i x l h1 h2 => by
      have g := hgv.2 i x l h1 h2
      exact ⟨g.cb, Nat.le_trans hrep.below.size g.own, g.blk, g.own⟩) hgv.1 hd (fun b g l e i l' h' hcb => by
      have := (hrep.dom b g l e).2
      have bi : i < gs.length := by rw [← hgv.1]; exact (List.getElem?_eq_some_iff.1 h').1
      have := (hgv.2 i _ l' (List.getElem?_eq_getElem bi) h').own
      omega)
  rw [hv, hH]
  exact ⟨ρ2, v', rfl, a1, a2, hvr ρ2 a3⟩
/-- A frame's call, or the call as it is. -/
noncomputable def frameO (Hg : Heap) (run : Run) : Run := fun F args H => Option.rec (run F args H) (fun p => some p) (frameG Hg run F args H)
theorem EntryOK.frameO {f : FuncId} {run : Run} {ρg : World → Ren} {Hg : Heap} (hb : Base P gl ρg Hg) (h : EntryOK P gl f run) : EntryOK P gl f (frameO Hg run) := by
  intro F hF args H v H' hr
  unfold Ab.frameO at hr
  cases hq : Ab.frameG Hg run F args H with
  | none => rw [hq] at hr; exact h F hF args H v H' hr
  | some p =>
    rw [hq] at hr
    have := Option.some.inj hr
    subst this
    exact EntryOK.frameG hb h F hF args H _ _ hq
/-- Calls that are evaluated ahead, by what their arguments lead to. -/
abbrev Look := List AV → List (List AV) → Nat → Option (AV × List (Nat × Blk))
noncomputable def tableG (Hg : Heap) (look : Look) : Run := fun _ args H =>
  (canonA H args Hg.size).bind fun c => (look c.1 c.2 H.size).bind fun q => some (q.1, pushB q.2 H)
def LookOK (Hg : Heap) (F0 : FTab) (run : Run) (look : Look) : Prop :=
  ∀ us bs n q, look us bs n = some q → (run F0 us (pushRo bs Hg)).bind (fun p => give3 p.2 n p.1) = some q ∧ nodupN q.2 = true
theorem EntryOK.tableG {f : FuncId} {run : Run} {ρg : World → Ren} {Hg : Heap} {look : Look} {F0 : FTab} (hb : Base P gl ρg Hg) (hF0 : FSound P gl F0) (h : EntryOK P gl f run) (hl : LookOK Hg F0 run look) : EntryOK P gl f (tableG Hg look) := by
  intro F _ args H v H' hr
  obtain ⟨c, hc, hr⟩ := bind_some hr
  obtain ⟨q, hq, hr⟩ := bind_some hr
  obtain ⟨h1, h2⟩ := hl _ _ _ _ hq
  obtain ⟨p, h3, h4⟩ := bind_some h1
  have h0 : EntryOK P gl f fun _ args H => run F0 args H := fun _ _ args H v H' hr => h F0 hF0 args H v H' hr
  refine EntryOK.frameG hb h0 F0 hF0 args H v H' ?_
  unfold Ab.frameG
  rw [hc, Option.bind_some]
  show ((run F0 c.1 (pushRo c.2 Hg)).bind _) = _
  rw [h3, Option.bind_some, h4, Option.bind_some, h2, br_true]
  exact hr
end
end Go.Ab
