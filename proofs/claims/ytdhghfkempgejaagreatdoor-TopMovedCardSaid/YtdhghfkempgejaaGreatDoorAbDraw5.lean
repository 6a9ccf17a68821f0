/- The abstract machine, 26: drawn regions are sound. -/
import Derived.Test.YtdhghfkempgejaaGreatDoorAbDraw4
namespace Go.Ab
open Go.RowKit

section
variable {P : Program} {gl : Gl} {F : FTab} {ops : Array Oper} {n : Nat} {pres : List Nat} {w0 : World} {ρ ρ' : Ren} {H H' : Heap} {w w' : World}
variable {ρ0 : Ren} {H0 HN : Heap} {τ0 τN : Nat → AV} {es : List Ent} {S : Nat → Bool} {es1 es2 : List Ent} {e : Ent} {a : Act}

theorem isEff_effB {e : Ent} (h : e.isEff P = true) : effB P e.o = true := by unfold effB; rw [(isEff_cls h).2]; rfl
theorem isNew_newB {e : Ent} (h : e.isNew P = true) : newB P e.o = true := by unfold newB; rw [(isNew_cls h).2]; rfl
theorem isNew_notEff {e : Ent} (h : e.isNew P = true) : e.isEff P = false := by
  unfold Ent.isEff; rw [(isNew_cls h).2]; simp [Cls.isEff]
theorem isEff_notNew {e : Ent} (h : e.isEff P = true) : e.isNew P = false := by
  unfold Ent.isNew; rw [(isEff_cls h).2]; simp [Cls.isNew]

theorem Ready.quiet (hr : Ready P gl F ops pres S es es1 es2 e) (he : e.isEff P = false) (hn : e.isNew P = false) {ea eb : List Ent} (hm : Mem P w0 ρ0 H0 HN es S ρ w ea eb) : Mem P w0 ρ0 H0 HN es (add S e.i) ρ w ea eb where
  split := hm.split
  effs := fun f hf q => add_old (hm.effs f hf q)
  rest := fun f hf q => by
    rcases add_inv q with q | q
    · have : f = e := hr.same (by rw [hm.split]; exact List.mem_append_right _ hf) q
      rw [this]; exact ⟨he, hn⟩
    · exact hm.rest f hf q
  head := fun f eb' h => by
    have := hm.head f eb' h
    refine ⟨this.1, ?_⟩
    rw [add_other]; exact this.2
    intro q
    have h2 : f = e := hr.same (by rw [hm.split, h]; exact List.mem_append_right _ List.mem_cons_self) q
    rw [h2, he] at this; cases this.1
  rep := hm.rep
  ext := hm.ext
  news := fun f hf q => by
    obtain ⟨a1, a2, a3⟩ := hm.news f hf q
    exact ⟨a1, a2, fun q => a3 (add_false q).2⟩
  order := hm.order

theorem Ready.newMem (hr : Ready P gl F ops pres S es es1 es2 e) (hn : e.isNew P = true) {ea eb : List Ent} (hm : Mem P w0 ρ0 H0 HN es S ρ w ea eb) :
    Spot ρ (hAt eb HN) e.h.size e.blk (hAt eb HN) ∧ ∀ (l : Loc) (w' : World), Rep P w0 (ρ.set e.h.size 0 l) (hAt eb HN) w' → Mem P w0 ρ0 H0 HN es (add S e.i) (ρ.set e.h.size 0 l) w' ea eb := by
  have he := isNew_notEff hn
  have hsplit : ∃ m, ea = es1 ++ e :: m := by
    rcases hr.cases hm with ⟨m, h1, _⟩ | ⟨_, _, h3⟩ | ⟨f, c, h1, _, h3, h4⟩
    · exact ⟨m, h1⟩
    · rw [he] at h3; cases h3
    · have hf : f ∈ es1 := by rw [h1]; exact List.mem_append_right _ List.mem_cons_self
      rcases (hr.before f hf).2 with q | q
      · have := hr.pre _ q; rw [h4] at this; cases this
      · have := (q.2 (isEff_effB h3)).2; rw [isNew_newB hn] at this; cases this
  obtain ⟨m, hea⟩ := hsplit
  have hmem : e ∈ ea := by rw [hea]; exact List.mem_append_right _ List.mem_cons_self
  obtain ⟨n1, n2, n3⟩ := hm.news e hmem hn
  obtain ⟨n3, n4⟩ := n3 hr.not
  have hle : ρ.le (ρ.set e.h.size 0 (⟨0, 0, 0, 0⟩ : Loc)) := Ren.le_set ρ _ (n3 0)
  refine ⟨⟨n3, fun _ _ _ _ => rfl, Nat.le_refl _, n1, n4⟩, fun l w' hrep => ?_⟩
  refine ⟨hm.split, fun f hf q => add_old (hm.effs f hf q), ?_, ?_, hrep, ?_, ?_, hm.order⟩
  · intro f hf q
    rcases add_inv q with q | q
    · exfalso
      have hfe : f = e := hr.same (by rw [hm.split]; exact List.mem_append_right _ hf) q
      have hp := hm.split
      rw [hr.split, hea, List.append_assoc, List.append_cancel_left_eq, List.cons_append, List.cons.injEq] at hp
      have : f ∈ es2 := by rw [hp.2]; exact List.mem_append_right _ hf
      exact (hr.behind f this).1 q
    · exact hm.rest f hf q
  · intro f eb' h
    have := hm.head f eb' h
    refine ⟨this.1, ?_⟩
    rw [add_other]; exact this.2
    intro q
    have h2 : f = e := hr.same (by rw [hm.split, h]; exact List.mem_append_right _ List.mem_cons_self) q
    rw [h2, he] at this; cases this.1
  · refine ⟨Ren.le_trans hm.ext.le (Ren.le_set ρ l (n3 0)), hm.ext.size, fun c hc hcn => ?_⟩
    obtain ⟨q1, q2⟩ := hm.ext.far c hc hcn
    exact ⟨fun g => by rw [Ren.set_other ρ l (.inl (by omega))]; exact q1 g, q2⟩
  · intro f hf hfn
    obtain ⟨a1, a2, a3⟩ := hm.news f hf hfn
    refine ⟨a1, a2, fun q => ?_⟩
    obtain ⟨q1, q2⟩ := add_false q
    obtain ⟨a4, a5⟩ := a3 q2
    refine ⟨fun g => ?_, a5⟩
    have hne : f.h.size ≠ e.h.size := by
      have ho := hm.order
      rw [hea] at ho hf
      rw [List.pairwise_append, List.pairwise_cons] at ho
      rcases List.mem_append.1 hf with hf | hf
      · have := ho.2.2 f hf e List.mem_cons_self hfn hn; omega
      · rcases List.mem_cons.1 hf with hf | hf
        · rw [hf] at q1; exact absurd rfl q1
        · have := ho.2.1.1 f hf hn hfn; omega
    rw [Ren.set_other ρ l (.inl hne)]; exact a4 g

theorem Ready.effMem (hf : Frame P gl F ops n pres τ0 H0 es τN HN) (hr : Ready P gl F ops pres S es es1 es2 e) (he : e.isEff P = true) {ea eb : List Ent} (hm : Mem P w0 ρ0 H0 HN es S ρ w ea eb) :
    Rep P w0 ρ e.h w ∧ ∀ (ρ' : Ren) (w' : World), Ext ρ e.h ρ' e.h' → Rep P w0 ρ' e.h' w' → ∃ ea' eb', Mem P w0 ρ0 H0 HN es (add S e.i) ρ' w' ea' eb' := by
  have hsplit : es1 = ea ∧ eb = e :: es2 := by
    rcases hr.cases hm with ⟨m, h1, _⟩ | ⟨h1, h2, _⟩ | ⟨f, c, h1, _, h3, h4⟩
    · have := hm.effs e (by rw [h1]; exact List.mem_append_right _ List.mem_cons_self) he
      rw [hr.not] at this; cases this
    · exact ⟨h1, h2⟩
    · have hf : f ∈ es1 := by rw [h1]; exact List.mem_append_right _ List.mem_cons_self
      rcases (hr.before f hf).2 with q | q
      · have := hr.pre _ q; rw [h4] at this; cases this
      · have := (q.2 (isEff_effB h3)).1; rw [isEff_effB he] at this; cases this
  obtain ⟨h1, h2⟩ := hsplit
  subst h1
  have hrep := hm.rep
  have hext := hm.ext
  rw [h2] at hrep hext
  refine ⟨hrep, fun ρ' w' hx hrep' => ?_⟩
  have htr := hf.tr
  rw [hr.split] at htr
  obtain ⟨τ1, H1, htr⟩ := htr.drop
  cases htr with
  | cons ht hh htr =>
    have hrest : ∀ f ∈ es2, add S e.i f.i = true → f.isEff P = false ∧ f.isNew P = false := fun f hfm q =>
      hm.rest f (by rw [h2]; exact List.mem_cons_of_mem _ hfm) ((add_inv q).resolve_left (hr.behind f hfm).1)
    obtain ⟨m, eb', g1, g2, g3, g4, g5, g6, g7, g8, g9⟩ := advance (S := add S e.i) es2 _ _ htr (fun f hfm => hf.ok f (by rw [hr.split]; exact List.mem_append_right _ (List.mem_cons_of_mem _ hfm))) hrest hrep' (hext.trans hx)
    have hsz := hx.size
    refine ⟨es1 ++ e :: m, eb', ?_, ?_, ?_, g3, g4, g5, ?_, ?_⟩
    · rw [hr.split, g1]; simp
    · intro f hfm q
      rcases List.mem_append.1 hfm with hfm | hfm
      · exact add_old (hm.effs f hfm q)
      · rcases List.mem_cons.1 hfm with hfm | hfm
        · rw [hfm]; exact add_same S e.i
        · rw [g2 f hfm] at q; cases q
    · intro f hfm q
      exact hrest f (by rw [g1]; exact List.mem_append_right _ hfm) q
    · intro f hfm hfn
      rcases List.mem_append.1 hfm with hfm | hfm
      · obtain ⟨a1, a2, a3⟩ := hm.news f hfm hfn
        rw [h2] at a1 a3
        have a1' : f.h.size < e.h.size := a1
        refine ⟨by omega, a2, fun q => ?_⟩
        obtain ⟨a4, a5⟩ := a3 (add_false q).2
        obtain ⟨b1, b2⟩ := hx.far _ a1' a4
        refine ⟨b1, ?_⟩
        rw [g7 _ (by omega), b2]; exact a5
      · rcases List.mem_cons.1 hfm with hfm | hfm
        · rw [hfm, isEff_notNew he] at hfn; cases hfn
        · obtain ⟨a1, a2, a3, a4⟩ := g8 f hfm hfn
          have := hext.size
          have h3 : H0.size ≤ e.h.size := this
          exact ⟨a2, by omega, fun _ => ⟨a3, a4⟩⟩
    · rw [List.pairwise_append, List.pairwise_cons]
      refine ⟨hm.order, ⟨fun f _ q => (by rw [isEff_notNew he] at q; cases q), g9⟩, fun f hfm g hgm q1 q2 => ?_⟩
      rcases List.mem_cons.1 hgm with hgm | hgm
      · rw [hgm, isEff_notNew he] at q2; cases q2
      · have a1 := (hm.news f hfm q1).1
        rw [h2] at a1
        have a1' : f.h.size < e.h.size := a1
        have := (g8 g hgm q2).1
        omega

/-- A read gives the same where it goes. -/
theorem Ready.reads (hf : Frame P gl F ops n pres τ0 H0 es τN HN) (hdown : ∀ j, S j = true → ∀ i, preB pres i j = true → S i = true) (hr : Ready P gl F ops pres S es es1 es2 e) (hrd : e.isRead P = true) {ea eb : List Ent} (hm : Mem P w0 ρ0 H0 HN es S ρ w ea eb) :
    e.RD P gl F ops (hAt eb HN) := by
  obtain ⟨hd, hc⟩ := isRead_cls hrd
  have he : e.isEff P = false := by unfold Ent.isEff; rw [hc]; simp [Cls.isEff]
  have hok := hf.ok e hr.mem
  have h0 : e.RD P gl F ops e.h ∧ e.h' = e.h := by
    have hrun := hok.run hd
    obtain ⟨v, hK, _⟩ := step_read hc hrun
    have e1 : e.h = e.h' := congrArg Prod.snd (Option.some.inj hK)
    refine ⟨?_, e1.symm⟩
    unfold Ent.RD
    rw [hrun, ← e1]
  rcases hr.cases hm with ⟨m, h1, h2⟩ | ⟨_, _, h3⟩ | ⟨f, c, h1, h2, h3, h4⟩
  · have htr := hf.tr
    rw [hr.split, h2] at htr
    obtain ⟨τ1, H1, htr⟩ := htr.drop
    cases htr with
    | cons ht hh htr =>
      refine rd_chain hc m htr (fun f hfm => hf.ok f (by rw [hr.split, h2]; exact List.mem_append_right _ (List.mem_cons_of_mem _ (List.mem_append_left _ hfm)))) (by rw [h0.2]; exact h0.1) fun f hfm hfe => ?_
      have hs : S f.i = true := hm.effs f (by rw [h1]; exact List.mem_append_right _ (List.mem_cons_of_mem _ hfm)) hfe
      have hck := hr.chk2 f (by rw [h2]; exact List.mem_append_left _ hfm)
      rcases hck.1 hrd hfe with q | q
      · rw [hr.not_pre hdown hs] at q; cases q
      · exact q
  · rw [he] at h3; cases h3
  · rw [h2]
    have hfm : f ∈ es1 := by rw [h1]; exact List.mem_append_right _ List.mem_cons_self
    rcases (hr.chk1 f hfm).2 h3 hrd with q | q
    · have := hr.pre _ q; rw [h4] at this; cases this
    · exact q

theorem draw_step (hC : CSound (R := AV × Heap) P gl F.oracle) (hf : Frame P gl F ops n pres τ0 H0 es τN HN) {Q : Exit → Act → World → Prop} {i : Nat} {o : Oper} (ho : ops[i]? = some o) (hnot : S i = false)
    (hall : ∀ e ∈ o.after, Region.binds .any e = true → S e.on = true) (hi : Inv P w0 gl n pres ρ0 H0 HN τ0 es S ρ a w) {K : Act → World → Prop}
    (hK : ∀ ρ' a' w', Inv P w0 gl n pres ρ0 H0 HN τ0 es (add S i) ρ' a' w' → K a' w') : wpOp P ops Q i K a w := by
  obtain ⟨es1, e, es2, hei, heo, hr⟩ := hf.ready hi.down ho hnot hall
  obtain ⟨ea, eb, hm⟩ := hi.mem
  have hok := hf.ok e hr.mem
  have hag : ∀ t ∈ e.o.looksAt ops, VR ρ (e.t.get .bad t) (a.tmps.getD t undef) := fun t ht => by
    rw [← hr.agree hf hi.down ht]; exact hi.tmps t
  have hE : ∀ x, VR ρ (e.E gl ops x) (a.eval x) := evR_rep hag hi.glob
  have hw := hok.guard ρ a hag
  rw [heo] at hw
  have size : ∀ v', (a.put o.dst v').tmps.size = n := fun v' => by
    cases o.dst with
    | none => exact hi.size
    | some d => show (a.tmps.setIfInBounds d v').size = n; rw [Array.size_setIfInBounds]; exact hi.size
  have defs : ∀ v', (a.put o.dst v').defers = [] := fun v' => by
    cases o.dst with
    | none => exact hi.defers
    | some d => exact hi.defers
  have fin : ∀ (ρ' : Ren) (v' : Value) (w' : World), ρ.le ρ' → VR ρ' e.v v' → (∃ ea' eb', Mem P w0 ρ0 H0 HN es (add S e.i) ρ' w' ea' eb') → K (a.put o.dst v') w' := fun ρ' v' w' hle hv hmem => by
    refine hK ρ' _ w' ⟨size v', defs v', hi.glob.le hle, ?_, ?_, ?_⟩
    · rw [← hei]; exact hr.down hi.down
    · intro t
      have := hr.tmps hi.down hok hi.size hi.tmps hle hv t
      rw [heo, hei] at this
      exact this
    · rw [← hei]; exact hmem
  unfold wpOp
  simp only [ho]
  cases hd : e.did with
  | false =>
    rw [hw, hd, if_neg (by simp)]
    refine fin ρ undef w (Ren.le_refl ρ) (by rw [(hok.skip hd).1]; exact .tuple .nil) ⟨ea, eb, hr.quiet (by unfold Ent.isEff; rw [hd]; rfl) (by unfold Ent.isNew; rw [hd]; rfl) hm⟩
  | true =>
    rw [hw, hd, if_pos rfl]
    refine .inl ?_
    have hrun := hok.run hd
    cases hc : clsOf P e.o.op with
    | pure =>
      obtain ⟨v, hKv, hs⟩ := step_pure hc hrun
      have e1 : v = e.v := congrArg Prod.fst (Option.some.inj hKv)
      obtain ⟨v', hv, hex⟩ := hs ρ a.eval w hE
      unfold Oper.wp
      rw [hex o (by rw [heo]) (by rw [heo])]
      exact fin ρ v' w (Ren.le_refl ρ) (by rw [← e1]; exact hv) ⟨ea, eb, hr.quiet (by unfold Ent.isEff; rw [hc]; simp [Cls.isEff]) (by unfold Ent.isNew; rw [hc]; simp [Cls.isNew]) hm⟩
    | read =>
      have hrd : e.isRead P = true := by unfold Ent.isRead; rw [hd, hc]; rfl
      have hRD := hr.reads hf hi.down hrd hm
      obtain ⟨v, hKv, hs⟩ := step_read hc hRD
      have e1 : v = e.v := congrArg Prod.fst (Option.some.inj hKv)
      obtain ⟨v', hv, hex⟩ := hs w0 ρ a.eval w hm.rep hE
      unfold Oper.wp
      rw [hex o (by rw [heo]) (by rw [heo])]
      exact fin ρ v' w (Ren.le_refl ρ) (by rw [← e1]; exact hv) ⟨ea, eb, hr.quiet (by unfold Ent.isEff; rw [hc]; simp [Cls.isEff]) (by unfold Ent.isNew; rw [hc]; simp [Cls.isNew]) hm⟩
    | new =>
      have hnew : e.isNew P = true := by unfold Ent.isNew; rw [hd, hc]; rfl
      rcases hok.heap (isNew_notEff hnew) with ⟨q, _⟩ | ⟨_, _, hN⟩
      · rw [hnew] at q; cases q
      · obtain ⟨hsp, hmem⟩ := hr.newMem hnew hm
        obtain ⟨l, v', w', h1, h2, h3⟩ := hN w0 ρ a.eval w _ _ hm.rep hsp hE
        unfold Oper.wp
        rw [h3 o (by rw [heo]) (by rw [heo])]
        exact fin _ v' w' (Ren.le_set ρ l (hsp.free 0)) h2 ⟨ea, eb, hmem l w' h1⟩
    | eff =>
      have heff : e.isEff P = true := by unfold Ent.isEff; rw [hd, hc]; rfl
      obtain ⟨hrep, hmem⟩ := hr.effMem hf heff hm
      refine step_sound hC hrun w0 ρ a w o K Q hrep hi.glob hE (by rw [heo]) (by rw [heo]) ?_
      intro ρ' v v' H' w' hx hrep' hv hp
      have e1 : v = e.v ∧ H' = e.h' := by
        have := Option.some.inj hp
        exact ⟨congrArg Prod.fst this, congrArg Prod.snd this⟩
      rw [e1.2] at hx hrep'
      rw [e1.1] at hv
      exact fin ρ' v' w' hx.le hv (hmem ρ' w' hx hrep')

theorem Frame.done (hf : Frame P gl F ops n pres τ0 H0 es τN HN) {listed : Array Bool} (hsz : listed.size = ops.size) (hready : Region.ready .any ops listed = []) : ∀ (es2 es1 : List Ent), es = es1 ++ es2 → (∀ f ∈ es1, listed.getD f.i false = true) → ∀ f ∈ es2, listed.getD f.i false = true
  | [], _, _, _ => fun f hf => by cases hf
  | e :: es2, es1, hsp, h1 => by
    have hem : e ∈ es := by rw [hsp]; exact List.mem_append_right _ List.mem_cons_self
    have hei : e.i ∈ es.map (·.i) := List.mem_map.2 ⟨e, hem, rfl⟩
    have hs : listed.getD e.i false = true := by
      cases hq : listed.getD e.i false with
      | true => rfl
      | false =>
        exfalso
        obtain ⟨o, ho, hb, hself, hiff⟩ := hf.static.per e.i hei
        have hlt : e.i < ops.size := (Array.getElem?_eq_some_iff.1 ho).1
        have : e.i ∈ Region.ready .any ops listed := by
          rw [mem_ready]
          refine ⟨?_, o, ho, fun ed hed hbd => ?_⟩
          · have hl : e.i < listed.size := by omega
            rw [Array.getD_eq_getD_getElem?, Array.getElem?_eq_getElem hl] at hq ⊢
            exact hq
          · have hpre : preB pres ed.on e.i = true := (hiff _).2 ⟨ed, hed, hbd, .inl rfl⟩
            obtain ⟨f, hfm, hfi⟩ := List.mem_map.1 (hf.static.all ed.on (hb ed hed hbd))
            rw [← hfi]
            have hp := hf.pairs
            rw [hsp] at hfm hp
            rcases List.mem_append.1 hfm with q | q
            · exact h1 f q
            · rw [List.pairwise_append, List.pairwise_cons] at hp
              rcases List.mem_cons.1 q with q | q
              · rw [← hfi, q, hself] at hpre; cases hpre
              · have := (hp.2.1.1 f q).2.1
                rw [hfi, hpre] at this; cases this
        rw [hready] at this; cases this
    intro f hfm
    rcases List.mem_cons.1 hfm with q | q
    · rw [q]; exact hs
    · refine Frame.done hf hsz hready es2 (es1 ++ [e]) (by rw [hsp]; simp) ?_ f q
      intro g hg
      rcases List.mem_append.1 hg with hg | hg
      · exact h1 g hg
      · rcases List.mem_cons.1 hg with hg | hg
        · rw [hg]; exact hs
        · cases hg

theorem listed_add {listed : Array Bool} {i : Nat} (h : i < listed.size) : (fun j => (listed.setIfInBounds i true).getD j false) = add (fun j => listed.getD j false) i := by
  funext j
  by_cases e : j = i
  · subst e
    rw [add_same, Array.getD_eq_getD_getElem?, Array.getElem?_setIfInBounds_self_of_lt h]; rfl
  · rw [add_other e, getD_set_ne false (fun q => e q.symm)]

theorem filter_le {α : Type} {p q : α → Bool} : ∀ {l : List α}, (∀ x ∈ l, q x = true → p x = true) → (l.filter q).length ≤ (l.filter p).length
  | [], _ => Nat.le_refl _
  | x :: l, h => by
    have ih := filter_le (l := l) fun y hy => h y (List.mem_cons_of_mem _ hy)
    rw [List.filter_cons, List.filter_cons]
    cases hq : q x with
    | true => rw [h x List.mem_cons_self hq, if_pos rfl, if_pos rfl, List.length_cons, List.length_cons]; omega
    | false =>
      rw [if_neg (by simp)]
      split
      · rw [List.length_cons]; omega
      · exact ih
theorem filter_lt {α : Type} {p q : α → Bool} {l : List α} {x : α} (hx : x ∈ l) (hp : p x = true) (hq : q x = false) (h : ∀ x ∈ l, q x = true → p x = true) : (l.filter q).length < (l.filter p).length := by
  obtain ⟨l1, l2, rfl⟩ := List.append_of_mem hx
  rw [List.filter_append, List.filter_append, List.length_append, List.length_append, List.filter_cons, List.filter_cons, hp, hq, if_neg (by simp), if_pos rfl, List.length_cons]
  have h1 := filter_le (l := l1) (p := p) (q := q) fun y hy => h y (List.mem_append_left _ hy)
  have h2 := filter_le (l := l2) (p := p) (q := q) fun y hy => h y (List.mem_append_right _ (List.mem_cons_of_mem _ hy))
  omega

theorem draw_any (hC : CSound (R := AV × Heap) P gl F.oracle) (hf : Frame P gl F ops n pres τ0 H0 es τN HN) {Q : Exit → Act → World → Prop}
    (hQ : ∀ ρ' a' w', Ext ρ0 H0 ρ' HN → Rep P w0 ρ' HN w' → (∀ t, VR ρ' (τN t) (a'.tmps.getD t undef)) → a'.tmps.size = n → a'.defers = [] → GlobOK gl w0 ρ' → Q .normal a' w') :
    ∀ (fuel : Nat) (listed : Array Bool) (ρ : Ren) (a : Act) (w : World), Inv P w0 gl n pres ρ0 H0 HN τ0 es (fun j => listed.getD j false) ρ a w → listed.size = ops.size → (es.filter fun e => !listed.getD e.i false).length ≤ fuel →
    wpAny P .any ops Q fuel listed a w := by
  have fin : ∀ (listed : Array Bool) (ρ : Ren) (a : Act) (w : World), Inv P w0 gl n pres ρ0 H0 HN τ0 es (fun j => listed.getD j false) ρ a w → (∀ f ∈ es, listed.getD f.i false = true) → Q .normal a w := by
    intro listed ρ a w hi hall
    obtain ⟨ea, eb, hm⟩ := hi.mem
    have heb : eb = [] := by
      cases eb with
      | nil => rfl
      | cons f eb' =>
        have := (hm.head f eb' rfl).2
        rw [hall f (by rw [hm.split]; exact List.mem_append_right _ List.mem_cons_self)] at this; cases this
    have h1 := hm.rep
    have h2 := hm.ext
    rw [heb] at h1 h2
    refine hQ ρ a w h2 h1 (fun t => ?_) hi.size hi.defers hi.glob
    rw [hf.tr.last t, valAt_congr (S' := fun j => listed.getD j false) fun f hfm _ => (hall f hfm).symm]
    exact hi.tmps t
  intro fuel
  induction fuel with
  | zero =>
    intro listed ρ a w hi hsz hcnt
    have hall : ∀ f ∈ es, listed.getD f.i false = true := fun f hfm => by
      cases hq : listed.getD f.i false with
      | true => rfl
      | false =>
        have : f ∈ es.filter fun e => !listed.getD e.i false := List.mem_filter.2 ⟨hfm, by rw [hq]; rfl⟩
        have := List.length_pos_of_mem this
        omega
    refine ⟨?_, fin listed ρ a w hi hall⟩
    cases hq : Region.ready .any ops listed with
    | nil => rfl
    | cons i l =>
      exfalso
      have hi' : i ∈ Region.ready .any ops listed := by rw [hq]; exact List.mem_cons_self
      obtain ⟨h0, o, ho, _⟩ := mem_ready.1 hi'
      have hlt : i < ops.size := (Array.getElem?_eq_some_iff.1 ho).1
      obtain ⟨f, hfm, hfi⟩ := List.mem_map.1 (hf.static.all i hlt)
      have := hall f hfm
      rw [hfi, Array.getD_eq_getD_getElem?, Array.getElem?_eq_getElem (by omega)] at this
      rw [Array.getD_eq_getD_getElem?, Array.getElem?_eq_getElem (by omega)] at h0
      simp only [Option.getD_some] at this h0
      rw [this] at h0; cases h0
  | succ fuel ih =>
    intro listed ρ a w hi hsz hcnt
    refine ⟨fun hq => fin listed ρ a w hi (fun f hfm => hf.done hsz hq es [] rfl (fun _ h => by cases h) f hfm), fun i hi' => ?_⟩
    obtain ⟨h0, o, ho, hall⟩ := mem_ready.1 hi'
    have hlt : i < ops.size := (Array.getElem?_eq_some_iff.1 ho).1
    have hltl : i < listed.size := by omega
    have hnot : listed.getD i false = false := by
      rw [Array.getD_eq_getD_getElem?, Array.getElem?_eq_getElem hltl] at h0 ⊢
      exact h0
    refine draw_step hC hf (S := fun j => listed.getD j false) ho hnot hall hi fun ρ' a' w' hi2 => ?_
    rw [← listed_add hltl] at hi2
    refine ih _ ρ' a' w' hi2 (by rw [Array.size_setIfInBounds]; exact hsz) ?_
    obtain ⟨f, hfm, hfi⟩ := List.mem_map.1 (hf.static.all i hlt)
    have hlt2 := filter_lt (l := es) (p := fun e => !listed.getD e.i false) (q := fun e => !(listed.setIfInBounds i true).getD e.i false) hfm (by rw [hfi, hnot]; rfl)
      (by have := congrFun (listed_add hltl) f.i; rw [show (listed.setIfInBounds i true).getD f.i false = add (fun j => listed.getD j false) i f.i from this, hfi, add_same]; rfl)
      (fun x _ hx => by
        have := congrFun (listed_add hltl) x.i
        rw [show (listed.setIfInBounds i true).getD x.i false = add (fun j => listed.getD j false) i x.i from this, Bool.not_eq_true'] at hx
        rw [Bool.not_eq_true']
        exact (add_false hx).2)
    omega

theorem draw_sound {R : Type} (hm : P.follows .mixedOrders = true) (hF : FSound P gl F) {n : Nat} {info : Nat → Option (List Nat × List Nat)} : DrawSound (R := R) P gl n (drawK P gl n F info) := by
  intro id ops s K r h w0 ρ a w Q hs hQ
  unfold drawK at h
  split at h
  · cases h
  · rename_i q hq
    obtain ⟨ord, pres⟩ := q
    obtain ⟨hokB, h⟩ := br_some h
    obtain ⟨es, s', g1, g2, g3, g4, g5, _, _⟩ := draw_trace ord [] [] s K r h
    have hst := okB_static P hokB
    simp only at hst
    rw [← g2] at hst
    have hf : Frame P gl F ops n pres (fun t => s.t.get .bad t) s.h es (fun t => s'.t.get .bad t) s'.h := ⟨hst, g3, g4, g5⟩
    refine wp_region_any hm ?_
    have hrep : Rep P w0 ρ s.h { w with drawn := w.drawn + 1 } := hs.rep.same rfl rfl rfl rfl
    have hS : (fun j => (Array.replicate ops.size false).getD j false) = fun _ => false := by
      funext j
      rw [Array.getD_eq_getD_getElem?, Array.getElem?_replicate]
      split <;> rfl
    obtain ⟨m, eb, k1, k2, k3, k4, k5, _, _, k8, k9⟩ := advance (S := fun _ => false) es _ _ g4 g3 (fun _ _ q => by cases q) hrep (Ext.refl ρ s.h)
    refine draw_any (hF.oracle (R := AV × Heap)) hf (w0 := w0) (ρ0 := ρ) ?_ ops.size _ ρ a _ ?_ (by simp) ?_
    · intro ρ' a' w' hext hrep' ht hsz hdf hgl
      exact hQ ρ' s' a' w' hext ⟨hrep', ht, hsz, hdf, hgl⟩ g1
    · rw [hS]
      refine ⟨hs.size, hs.defers, hs.glob, fun _ q => (by cases q), fun t => ?_, m, eb, ⟨k1, fun e he q => (by rw [k2 e he] at q; cases q), fun _ _ q => (by cases q), k3, k4, k5, ?_, k9⟩⟩
      · rw [valAt_none (fun _ _ q => by cases q)]; exact hs.tmps t
      · intro e he hn
        obtain ⟨q1, q2, q3, q4⟩ := k8 e he hn
        exact ⟨q2, q1, fun _ => ⟨q3, q4⟩⟩
    · have hl : es.length ≤ ops.size := by have := hst.len; simpa using this
      exact Nat.le_trans (List.length_filter_le _ _) hl
end
end Go.Ab
