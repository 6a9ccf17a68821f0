/- The abstract machine, 25: drawn regions, the proof. -/
import Derived.Test.YtdhghfkempgejaaGreatDoorAbDraw3
namespace Go.Ab
open Go.RowKit

section
variable {P : Program} {gl : Gl} {F : FTab} {ops : Array Oper} {n : Nat} {pres : List Nat} {w0 : World} {ρ ρ' : Ren} {H H' : Heap} {w w' : World}

structure Mem (P : Program) (w0 : World) (ρ0 : Ren) (H0 HN : Heap) (es : List Ent) (S : Nat → Bool) (ρ : Ren) (w : World) (ea eb : List Ent) : Prop where
  split : es = ea ++ eb
  effs : ∀ e ∈ ea, e.isEff P = true → S e.i = true
  rest : ∀ e ∈ eb, S e.i = true → e.isEff P = false ∧ e.isNew P = false
  head : Head P S eb
  rep : Rep P w0 ρ (hAt eb HN) w
  ext : Ext ρ0 H0 ρ (hAt eb HN)
  news : ∀ e ∈ ea, e.isNew P = true → e.h.size < (hAt eb HN).size ∧ H0.size ≤ e.h.size ∧ (S e.i = false → (∀ g, ρ e.h.size g = none) ∧ (hAt eb HN).get e.h.size = e.blk)
  order : ea.Pairwise fun e f => e.isNew P = true → f.isNew P = true → e.h.size < f.h.size

def add (S : Nat → Bool) (i : Nat) : Nat → Bool := fun j => bif Nat.beq j i then true else S j
theorem add_same (S : Nat → Bool) (i : Nat) : add S i i = true := by simp [add]
theorem add_other {S : Nat → Bool} {i j : Nat} (h : j ≠ i) : add S i j = S j := by
  unfold add
  cases e : Nat.beq j i with
  | true => exact absurd (Nat.eq_of_beq_eq_true e) h
  | false => rfl
theorem add_old {S : Nat → Bool} {i j : Nat} (h : S j = true) : add S i j = true := by
  by_cases e : j = i
  · rw [e]; exact add_same S i
  · rw [add_other e]; exact h
theorem add_inv {S : Nat → Bool} {i j : Nat} (h : add S i j = true) : j = i ∨ S j = true := by
  by_cases e : j = i
  · exact .inl e
  · rw [add_other e] at h; exact .inr h
theorem add_false {S : Nat → Bool} {i j : Nat} (h : add S i j = false) : j ≠ i ∧ S j = false := by
  by_cases e : j = i
  · rw [e, add_same] at h; cases h
  · rw [add_other e] at h; exact ⟨e, h⟩

structure Inv (P : Program) (w0 : World) (gl : Gl) (n : Nat) (pres : List Nat) (ρ0 : Ren) (H0 HN : Heap) (τ0 : Nat → AV) (es : List Ent) (S : Nat → Bool) (ρ : Ren) (a : Act) (w : World) : Prop where
  size : a.tmps.size = n
  defers : a.defers = []
  glob : GlobOK gl w0 ρ
  down : ∀ j, S j = true → ∀ i, preB pres i j = true → S i = true
  tmps : ∀ t, VR ρ (valAt S t es (τ0 t)) (a.tmps.getD t undef)
  mem : ∃ ea eb, Mem P w0 ρ0 H0 HN es S ρ w ea eb

/-- What stands still. -/
structure Frame (P : Program) (gl : Gl) (F : FTab) (ops : Array Oper) (n : Nat) (pres : List Nat) (τ0 : Nat → AV) (H0 : Heap) (es : List Ent) (τN : Nat → AV) (HN : Heap) : Prop where
  static : Static P ops pres (es.map (·.i))
  ok : ∀ e ∈ es, EntOK P gl F ops n e
  tr : Tr τ0 H0 es τN HN
  chk : es.Pairwise (Chk P gl F ops pres)

variable {ρ0 : Ren} {H0 HN : Heap} {τ0 τN : Nat → AV} {es : List Ent}

theorem Frame.pairs (h : Frame P gl F ops n pres τ0 H0 es τN HN) : es.Pairwise fun e f => e.i ≠ f.i ∧ preB pres f.i e.i = false ∧
    (preB pres e.i f.i = true ∨ (e.o.apart ops f.o = true ∧ (effB P e.o = true → effB P f.o = false ∧ newB P f.o = false))) := by
  have h1 := h.static.pair
  rw [List.pairwise_map] at h1
  have h2 : es.Pairwise fun e f => e ∈ es ∧ f ∈ es := List.pairwise_of_forall_mem_list fun a ha b hb => ⟨ha, hb⟩
  refine (h1.and h2).imp fun {e f} ⟨⟨a, b, c⟩, he, hf⟩ => ⟨a, b, c e.o f.o (h.ok e he).op (h.ok f hf).op⟩

/-- An operation that may go, in its place. -/
structure Ready (P : Program) (gl : Gl) (F : FTab) (ops : Array Oper) (pres : List Nat) (S : Nat → Bool) (es es1 es2 : List Ent) (e : Ent) : Prop where
  split : es = es1 ++ e :: es2
  not : S e.i = false
  pre : ∀ j, preB pres j e.i = true → S j = true
  before : ∀ f ∈ es1, f.i ≠ e.i ∧ (preB pres f.i e.i = true ∨ (f.o.apart ops e.o = true ∧ (effB P f.o = true → effB P e.o = false ∧ newB P e.o = false)))
  behind : ∀ f ∈ es2, f.i ≠ e.i ∧ (preB pres e.i f.i = true ∨ (e.o.apart ops f.o = true ∧ (effB P e.o = true → effB P f.o = false ∧ newB P f.o = false)))
  chk1 : ∀ f ∈ es1, Chk P gl F ops pres f e
  chk2 : ∀ f ∈ es2, Chk P gl F ops pres e f

theorem Frame.ready (h : Frame P gl F ops n pres τ0 H0 es τN HN) {S : Nat → Bool} (hdown : ∀ j, S j = true → ∀ i, preB pres i j = true → S i = true) {i : Nat} {o : Oper} (ho : ops[i]? = some o) (hnot : S i = false)
    (hall : ∀ e ∈ o.after, Region.binds .any e = true → S e.on = true) : ∃ es1 e es2, e.i = i ∧ e.o = o ∧ Ready P gl F ops pres S es es1 es2 e := by
  have hlt : i < ops.size := (Array.getElem?_eq_some_iff.1 ho).1
  obtain ⟨e, he, hei⟩ := List.mem_map.1 (h.static.all i hlt)
  obtain ⟨es1, es2, hsp⟩ := List.append_of_mem he
  have hp := h.pairs
  have hc := h.chk
  rw [hsp, List.pairwise_append] at hp hc
  obtain ⟨_, p2, p3⟩ := hp
  obtain ⟨_, c2, c3⟩ := hc
  rw [List.pairwise_cons] at p2 c2
  have heo : e.o = o := by
    have := (h.ok e he).op
    rw [hei, ho] at this
    exact (Option.some.inj this).symm
  refine ⟨es1, e, es2, hei, heo, hsp, by rw [hei]; exact hnot, fun j hj => ?_, fun f hf => ?_, fun f hf => ?_, fun f hf => c3 f hf e List.mem_cons_self, fun f hf => c2.1 f hf⟩
  · rw [hei] at hj
    obtain ⟨o', ho', _, _, hiff⟩ := h.static.per i (h.static.all i hlt)
    rw [ho] at ho'; cases ho'
    obtain ⟨ed, hed, hb, hj'⟩ := (hiff j).1 hj
    have hs := hall ed hed hb
    rcases hj' with q | q
    · rw [← q]; exact hs
    · exact hdown _ hs _ q
  · obtain ⟨q1, q2, q3⟩ := p3 f hf e List.mem_cons_self
    exact ⟨q1, q3⟩
  · obtain ⟨q1, q2, q3⟩ := p2.1 f hf
    exact ⟨fun q => q1 q.symm, q3⟩

section
variable {S : Nat → Bool} {es1 es2 : List Ent} {e : Ent} {a : Act} (hr : Ready P gl F ops pres S es es1 es2 e)
include hr

theorem Ready.mem : e ∈ es := by rw [hr.split]; exact List.mem_append_right _ List.mem_cons_self
theorem Ready.same {f : Ent} (hf : f ∈ es) (h : f.i = e.i) : f = e := by
  rw [hr.split] at hf
  rcases List.mem_append.1 hf with hf | hf
  · exact absurd h (hr.before f hf).1
  · rcases List.mem_cons.1 hf with q | hf
    · exact q
    · exact absurd h (hr.behind f hf).1
theorem Ready.not_pre (hdown : ∀ j, S j = true → ∀ i, preB pres i j = true → S i = true) {f : Ent} (hs : S f.i = true) : preB pres e.i f.i = false := by
  cases q : preB pres e.i f.i with
  | false => rfl
  | true => have := hdown _ hs _ q; rw [hr.not] at this; cases this

theorem Ready.agree (hf : Frame P gl F ops n pres τ0 H0 es τN HN) (hdown : ∀ j, S j = true → ∀ i, preB pres i j = true → S i = true) {t : Nat} (ht : t ∈ e.o.looksAt ops) :
    valAt S t es (τ0 t) = e.t.get .bad t := by
  have htr := hf.tr
  rw [hr.split] at htr
  rw [htr.before t, hr.split, valAt_append]
  have h2 : ∀ x, valAt S t (e :: es2) x = x := fun x => valAt_none fun f hfm hs => by
    rcases List.mem_cons.1 hfm with q | hfm
    · rw [q, hr.not] at hs; cases hs
    · rcases (hr.behind f hfm).2 with q | q
      · rw [hr.not_pre hdown hs] at q; cases q
      · intro hd
        exact (Oper.apart_spec q.1).2.2 t hd ht
  rw [h2]
  refine valAt_congr fun f hfm hd => ?_
  rcases (hr.before f hfm).2 with q | q
  · exact hr.pre _ q
  · exact absurd ht ((Oper.apart_spec q.1).1 t hd)

theorem Ready.tmps (hdown : ∀ j, S j = true → ∀ i, preB pres i j = true → S i = true) (hok : EntOK P gl F ops n e) (hsize : a.tmps.size = n) (ht : ∀ t, VR ρ (valAt S t es (τ0 t)) (a.tmps.getD t undef)) (hle : ρ.le ρ') {v' : Value} (hv : VR ρ' e.v v') (t : Nat) :
    VR ρ' (valAt (add S e.i) t es (τ0 t)) ((a.put e.o.dst v').tmps.getD t undef) := by
  by_cases hd : e.o.dst = some t
  · have hlt := hok.dst t hd
    have e1 : valAt (add S e.i) t es (τ0 t) = e.v := by
      rw [hr.split, valAt_append]
      show valAt (add S e.i) t es2 (if add S e.i e.i = true ∧ e.o.dst = some t then e.v else _) = e.v
      rw [if_pos ⟨add_same S e.i, hd⟩]
      refine valAt_none fun f hfm hs => ?_
      have hs' := (add_inv hs).resolve_left (hr.behind f hfm).1
      rcases (hr.behind f hfm).2 with q | q
      · rw [hr.not_pre hdown hs'] at q; cases q
      · exact (Oper.apart_spec q.1).2.1 t hd
    rw [e1, hd]
    show VR ρ' e.v ((a.tmps.setIfInBounds t v').getD t undef)
    rw [Array.getD_eq_getD_getElem?, Array.getElem?_setIfInBounds_self_of_lt (by rw [hsize]; exact hlt)]
    exact hv
  · have e1 : valAt (add S e.i) t es (τ0 t) = valAt S t es (τ0 t) := valAt_congr fun f hfm hfd => by
      refine add_other fun q => hd ?_
      rw [← hr.same hfm q]; exact hfd
    rw [e1]
    have e2 : (a.put e.o.dst v').tmps.getD t undef = a.tmps.getD t undef := by
      cases hdd : e.o.dst with
      | none => rfl
      | some d =>
        show (a.tmps.setIfInBounds d v').getD t undef = _
        have : d ≠ t := fun q => hd (by rw [hdd, q])
        rw [Array.getD_eq_getD_getElem?, Array.getElem?_setIfInBounds_ne this, ← Array.getD_eq_getD_getElem?]
    rw [e2]
    exact (ht t).mono hle
theorem Ready.down (hdown : ∀ j, S j = true → ∀ i, preB pres i j = true → S i = true) : ∀ j, add S e.i j = true → ∀ i, preB pres i j = true → add S e.i i = true := by
  intro j hj i hij
  rcases add_inv hj with q | q
  · rw [q] at hij; exact add_old (hr.pre i hij)
  · exact add_old (hdown j q i hij)

/-- Where the operation lies, seen from the next effect. -/
theorem Ready.cases {ea eb : List Ent} (hm : Mem P w0 ρ0 H0 HN es S ρ w ea eb) :
    (∃ m, ea = es1 ++ e :: m ∧ es2 = m ++ eb) ∨ (es1 = ea ∧ eb = e :: es2 ∧ e.isEff P = true) ∨ (∃ f c, es1 = ea ++ f :: c ∧ eb = f :: (c ++ e :: es2) ∧ f.isEff P = true ∧ S f.i = false) := by
  have h := hm.split
  rw [hr.split] at h
  rcases List.append_eq_append_iff.1 h with ⟨m, h1, h2⟩ | ⟨m, h1, h2⟩
  · cases m with
    | nil =>
      refine .inr (.inl ⟨by rw [h1]; simp, h2.symm, ?_⟩)
      exact (hm.head e es2 h2.symm).1
    | cons x m =>
      simp only [List.cons_append, List.cons.injEq] at h2
      obtain ⟨rfl, h2⟩ := h2
      exact .inl ⟨m, h1, h2⟩
  · cases m with
    | nil =>
      refine .inr (.inl ⟨by rw [h1]; simp, by rw [h2]; rfl, ?_⟩)
      exact (hm.head e es2 (by rw [h2]; rfl)).1
    | cons x m =>
      have := hm.head x (m ++ e :: es2) (by rw [h2]; rfl)
      exact .inr (.inr ⟨x, m, h1, by rw [h2]; rfl, this.1, this.2⟩)
end
end
end Go.Ab
