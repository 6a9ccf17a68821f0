/- The abstract machine, 24: drawn regions: every order is the one that was evaluated. -/
import Derived.Test.YtdhghfkempgejaaGreatDoorAbDraw2
namespace Go.Ab
open Go.RowKit

section
variable {P : Program} {gl : Gl} {F : FTab} {ops : Array Oper} {n : Nat} {pres : List Nat} {w0 : World} {ρ ρ' : Ren} {H H' : Heap} {w w' : World}

/-- A block comes that no value knows. -/
theorem Rep.phantom (h : Rep P w0 ρ H w) (x : Blk) : Rep P w0 ρ (H.push x) w where
  below := h.below
  dom := fun b g l e => ⟨by have := (h.dom b g l e).1; simp; omega, (h.dom b g l e).2⟩
  inj := fun b g l b' g' l' e e' hcb => by
    rw [Heap.get_push_old H x (h.dom b g l e).1, Heap.get_push_old H x (h.dom b' g' l' e').1]
    exact h.inj b g l b' g' l' e e' hcb
  al := h.al
  gen := fun b g l g0 e hx => by rw [Heap.get_push_old H x (h.dom b g l e).1] at hx; exact h.gen b g l g0 e hx
  blk := fun b g l e => by rw [Heap.get_push_old H x (h.dom b g l e).1]; exact h.blk b g l e
  own := fun b g l e hr => by rw [Heap.get_push_old H x (h.dom b g l e).1] at hr; exact h.own b g l e hr
theorem Ext.phantom (h : Ext ρ H ρ' H') (x : Blk) : Ext ρ H ρ' (H'.push x) :=
  ⟨h.le, by have := h.size; simp; omega, fun b hb hn => ⟨(h.far b hb hn).1, by rw [Heap.get_push_old H' x (Nat.lt_of_lt_of_le hb h.size)]; exact (h.far b hb hn).2⟩⟩

theorem evR_rep {t : T AV} {L : List Nat} {a : Act} (hag : ∀ k ∈ L, VR ρ (t.get .bad k) (a.tmps.getD k undef)) (hgl : GlobOK gl w0 ρ) (x : Operand) : VR ρ (evR gl t L x) (a.eval x) := by
  cases x with
  | tmp k =>
    show VR ρ (br (memB L k) (t.get .bad k) .bad) _
    cases e : memB L k with
    | false => exact .bad _
    | true => exact hag k (memB_mem.1 e)
  | const v => exact toAV_VR ρ v
  | global g =>
    show VR ρ (br (gl.is g) (.ptr (some ⟨g, 0, 0⟩)) .bad) (.pointer (some ⟨g, 0, none⟩))
    cases hg : gl.is g with
    | false => exact .bad _
    | true =>
      obtain ⟨l, h1, h2, h3, h4⟩ := hgl.2 g hg
      have := VR.ptr (ρ := ρ) (a := ⟨g, 0, 0⟩) (l := l) h1 (by rw [h3]; exact Nat.le_refl _)
      have e : l.at 0 = ⟨g, 0, none⟩ := by unfold Loc.at; rw [h2, h3, h4]
      simp only at this
      rw [e] at this
      exact this
  | func f => exact .fn .nil .nil

/-! Temporaries -/
noncomputable def valAt (S : Nat → Bool) (t : Nat) : List Ent → AV → AV
  | [], x => x
  | e :: es, x => valAt S t es (if S e.i = true ∧ e.o.dst = some t then e.v else x)
theorem valAt_append (S : Nat → Bool) (t : Nat) : ∀ (l m : List Ent) (x : AV), valAt S t (l ++ m) x = valAt S t m (valAt S t l x)
  | [], _, _ => rfl
  | _ :: l, m, _ => valAt_append S t l m _
theorem valAt_none {S : Nat → Bool} {t : Nat} : ∀ {l : List Ent} {x : AV}, (∀ e ∈ l, S e.i = true → e.o.dst ≠ some t) → valAt S t l x = x
  | [], _, _ => rfl
  | e :: l, x, h => by
    show valAt S t l (if S e.i = true ∧ e.o.dst = some t then e.v else x) = x
    rw [if_neg (fun q => h e List.mem_cons_self q.1 q.2)]
    exact valAt_none fun f hf => h f (List.mem_cons_of_mem _ hf)
theorem valAt_congr {S S' : Nat → Bool} {t : Nat} : ∀ {l : List Ent} {x : AV}, (∀ e ∈ l, e.o.dst = some t → S e.i = S' e.i) → valAt S t l x = valAt S' t l x
  | [], _, _ => rfl
  | e :: l, x, h => by
    show valAt S t l (if S e.i = true ∧ e.o.dst = some t then e.v else x) = valAt S' t l (if S' e.i = true ∧ e.o.dst = some t then e.v else x)
    have : (if S e.i = true ∧ e.o.dst = some t then e.v else x) = (if S' e.i = true ∧ e.o.dst = some t then e.v else x) := by
      by_cases hd : e.o.dst = some t
      · rw [h e List.mem_cons_self hd]
      · rw [if_neg (fun q => hd q.2), if_neg (fun q => hd q.2)]
    rw [this]
    exact valAt_congr fun f hf => h f (List.mem_cons_of_mem _ hf)
theorem Tr.before {e : Ent} {es2 : List Ent} {τ' : Nat → AV} {H' : Heap} (t : Nat) : ∀ {es1 : List Ent} {τ : Nat → AV} {H : Heap}, Tr τ H (es1 ++ e :: es2) τ' H' → e.t.get .bad t = valAt (fun _ => true) t es1 (τ t)
  | [], _, _, .cons h _ _ => h t
  | f :: es1, τ, H, .cons _ _ h => by
    rw [Tr.before t (es1 := es1) h]
    show valAt _ t es1 (updA τ f.o.dst f.v t) = valAt _ t es1 (if (fun _ => true) f.i = true ∧ f.o.dst = some t then f.v else τ t)
    unfold updA
    by_cases hd : f.o.dst = some t <;> simp [hd]
theorem Tr.last {τ' : Nat → AV} {H' : Heap} (t : Nat) : ∀ {es : List Ent} {τ : Nat → AV} {H : Heap}, Tr τ H es τ' H' → τ' t = valAt (fun _ => true) t es (τ t)
  | [], _, _, .nil _ _ => rfl
  | f :: es, τ, H, .cons _ _ h => by
    rw [Tr.last t (es := es) h]
    show valAt _ t es (updA τ f.o.dst f.v t) = valAt _ t es (if (fun _ => true) f.i = true ∧ f.o.dst = some t then f.v else τ t)
    unfold updA
    by_cases hd : f.o.dst = some t <;> simp [hd]
theorem Tr.drop {es2 : List Ent} {τ' : Nat → AV} {H' : Heap} : ∀ {es1 : List Ent} {τ : Nat → AV} {H : Heap}, Tr τ H (es1 ++ es2) τ' H' → ∃ τ1 H1, Tr τ1 H1 es2 τ' H'
  | [], _, _, h => ⟨_, _, h⟩
  | _ :: es1, _, _, .cons _ _ h => Tr.drop (es1 := es1) h

/-! Heaps -/
def hAt (eb : List Ent) (HN : Heap) : Heap :=
  match eb with
  | [] => HN
  | e :: _ => e.h
noncomputable def Ent.blk (e : Ent) : Blk := e.h'.get e.h.size

theorem EntOK.heap {e : Ent} (h : EntOK P gl F ops n e) (he : e.isEff P = false) : (e.isNew P = false ∧ e.h' = e.h) ∨ (e.isNew P = true ∧ e.h' = e.h.push e.blk ∧ NewOp P e.o.op e.o.type (e.E gl ops) e.h.size e.v e.blk) := by
  cases hd : e.did with
  | false => exact .inl ⟨by unfold Ent.isNew; rw [hd]; rfl, (h.skip hd).2⟩
  | true =>
    have hr := h.run hd
    cases hc : clsOf P e.o.op with
    | pure =>
      obtain ⟨v, hK, _⟩ := step_pure hc hr
      exact .inl ⟨by unfold Ent.isNew; rw [hd, hc]; rfl, (congrArg Prod.snd (Option.some.inj hK)).symm⟩
    | read =>
      obtain ⟨v, hK, _⟩ := step_read hc hr
      exact .inl ⟨by unfold Ent.isNew; rw [hd, hc]; rfl, (congrArg Prod.snd (Option.some.inj hK)).symm⟩
    | new =>
      obtain ⟨v, x, hK, hn⟩ := step_new hc hr
      have e1 : v = e.v ∧ e.h.push x = e.h' := by
        have := Option.some.inj hK
        exact ⟨congrArg Prod.fst this, congrArg Prod.snd this⟩
      have hx : e.blk = x := by unfold Ent.blk; rw [← e1.2]; exact Heap.get_push_new _ _
      rw [hx, ← e1.1, e1.2]
      exact .inr ⟨by unfold Ent.isNew; rw [hd, hc]; rfl, rfl, hn⟩
    | eff => unfold Ent.isEff at he; rw [hd, hc] at he; cases he

/-- The next operation in sight has an effect, and has not gone. -/
def Head (P : Program) (S : Nat → Bool) (eb : List Ent) : Prop := ∀ f eb', eb = f :: eb' → f.isEff P = true ∧ S f.i = false

theorem advance {S : Nat → Bool} {ρ0 : Ren} {H0 HN : Heap} {τ' : Nat → AV} : ∀ (es : List Ent) (τ : Nat → AV) (H : Heap), Tr τ H es τ' HN → (∀ e ∈ es, EntOK P gl F ops n e) →
    (∀ e ∈ es, S e.i = true → e.isEff P = false ∧ e.isNew P = false) → Rep P w0 ρ H w → Ext ρ0 H0 ρ H →
    ∃ m eb, es = m ++ eb ∧ (∀ e ∈ m, e.isEff P = false) ∧ Head P S eb ∧ Rep P w0 ρ (hAt eb HN) w ∧ Ext ρ0 H0 ρ (hAt eb HN) ∧ H.size ≤ (hAt eb HN).size ∧ (∀ c, c < H.size → (hAt eb HN).get c = H.get c) ∧
      (∀ e ∈ m, e.isNew P = true → H.size ≤ e.h.size ∧ e.h.size < (hAt eb HN).size ∧ (∀ g, ρ e.h.size g = none) ∧ (hAt eb HN).get e.h.size = e.blk) ∧
      m.Pairwise fun e f => e.isNew P = true → f.isNew P = true → e.h.size < f.h.size
  | [], τ, H, .nil _ _, _, _, hrep, hext => ⟨[], [], rfl, fun _ h => (by cases h), fun f eb' h => (by cases h), hrep, hext, Nat.le_refl _, fun _ _ => rfl, fun _ h => (by cases h), .nil⟩
  | e :: es, τ, H, .cons ht hh htr, hok, hS, hrep, hext => by
    cases he : e.isEff P with
    | true =>
      refine ⟨[], e :: es, rfl, fun _ h => (by cases h), fun f eb' h => ?_, by show Rep P w0 ρ e.h w; rw [hh]; exact hrep, by show Ext ρ0 H0 ρ e.h; rw [hh]; exact hext, by show H.size ≤ e.h.size; rw [hh]; exact Nat.le_refl _, fun c _ => by show e.h.get c = _; rw [hh], fun _ h => (by cases h), .nil⟩
      cases h
      refine ⟨he, ?_⟩
      cases hs : S e.i with
      | false => rfl
      | true => have := (hS e List.mem_cons_self hs).1; rw [he] at this; cases this
    | false =>
      have hok' : ∀ f ∈ es, EntOK P gl F ops n f := fun f hf => hok f (List.mem_cons_of_mem _ hf)
      have hS' : ∀ f ∈ es, S f.i = true → f.isEff P = false ∧ f.isNew P = false := fun f hf => hS f (List.mem_cons_of_mem _ hf)
      rcases (hok e List.mem_cons_self).heap he with ⟨hn, e1⟩ | ⟨hn, e1, _⟩
      · obtain ⟨m, eb, g1, g2, g3, g4, g5, g6, g7, g8, g9⟩ := advance es _ _ htr hok' hS' (by rw [e1, hh]; exact hrep) (by rw [e1, hh]; exact hext)
        rw [e1, hh] at g6 g7 g8
        refine ⟨e :: m, eb, by rw [g1]; rfl, ?_, g3, g4, g5, g6, g7, ?_, .cons (fun f _ q => by rw [hn] at q; cases q) g9⟩
        · intro f hf
          rcases List.mem_cons.1 hf with rfl | hf
          · exact he
          · exact g2 f hf
        · intro f hf hnf
          rcases List.mem_cons.1 hf with rfl | hf
          · rw [hn] at hnf; cases hnf
          · exact g8 f hf hnf
      · rw [hh] at e1
        obtain ⟨m, eb, g1, g2, g3, g4, g5, g6, g7, g8, g9⟩ := advance es _ _ htr hok' hS' (by rw [e1]; exact hrep.phantom _) (by rw [e1]; exact hext.phantom _)
        rw [e1, Heap.size_push] at g6 g7 g8
        refine ⟨e :: m, eb, by rw [g1]; rfl, ?_, g3, g4, g5, by omega, fun c hc => ?_, ?_, .cons (fun f hf _ hnf => ?_) g9⟩
        · intro f hf
          rcases List.mem_cons.1 hf with rfl | hf
          · exact he
          · exact g2 f hf
        · rw [g7 c (by omega)]; exact Heap.get_push_old H _ hc
        · intro f hf hnf
          rcases List.mem_cons.1 hf with rfl | hf
          · rw [hh]
            exact ⟨Nat.le_refl _, by omega, hrep.fresh, by rw [g7 _ (by omega)]; exact Heap.get_push_new H _⟩
          · obtain ⟨q1, q2⟩ := g8 f hf hnf
            exact ⟨by omega, q2⟩
        · have := (g8 f hf hnf).1
          rw [hh]; omega

theorem rd_chain {e : Ent} {HN : Heap} {τ' : Nat → AV} (hce : clsOf P e.o.op = .read) : ∀ (m : List Ent) {eb : List Ent} {τ : Nat → AV} {H : Heap}, Tr τ H (m ++ eb) τ' HN → (∀ f ∈ m, EntOK P gl F ops n f) → e.RD P gl F ops H →
    (∀ f ∈ m, f.isEff P = true → e.RD P gl F ops f.h') → e.RD P gl F ops (hAt eb HN)
  | [], [], _, _, .nil _ _, _, h, _ => h
  | [], f :: eb, _, _, .cons _ hh _, _, h, _ => by show e.RD P gl F ops f.h; rw [hh]; exact h
  | f :: m, eb, _, _, .cons _ hh htr, hok, h, hm => by
    refine rd_chain hce m htr (fun g hg => hok g (List.mem_cons_of_mem _ hg)) ?_ fun g hg => hm g (List.mem_cons_of_mem _ hg)
    cases he : f.isEff P with
    | true => exact hm f List.mem_cons_self he
    | false =>
      rcases (hok f List.mem_cons_self).heap he with ⟨_, e1⟩ | ⟨_, e1, _⟩
      · rw [e1, hh]; exact h
      · rw [e1, hh]; exact read_push hce h _
end
end Go.Ab
