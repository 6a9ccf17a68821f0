/- The abstract machine, 19: code, loops, function bodies. -/
import Derived.Test.YtdhghfkempgejaaGreatDoorAbRun
import Derived.Scope
namespace Go.Ab
open Go.RowKit

/-- What is kept of the temporaries where ways meet: by the number of the first region behind. 'cuts': behind a seq; 'ins', 'outs': at a loop's head, and at each exit from it; 'rets': at a return from it. 'ord': another order of a region's operations. -/
structure Plan where
  cuts : Nat → Option (List Nat)
  ins : Nat → List Nat
  outs : Nat → List (Nat × List Nat)
  rets : Nat → Option (List Nat)

/-- The number of the first region of a code. -/
def firstReg : Code → Option Nat
  | .region id _ _ => some id
  | .seq a b => match firstReg a with
    | some i => some i
    | none => firstReg b
  | .block _ c => firstReg c
  | .loop c => firstReg c
  | .scope c => firstReg c
  | _ => none

noncomputable def keepT (l : List Nat) (t : T AV) : T AV := List.rec .leaf (fun k _ ih => ih.set .bad k (t.get .bad k)) l
theorem keepT_get (l : List Nat) (t : T AV) (j : Nat) : (keepT l t).get .bad j = t.get .bad j ∨ (keepT l t).get .bad j = .bad := by
  induction l with
  | nil => exact .inr rfl
  | cons k l ih =>
    show ((keepT l t).set .bad k (t.get .bad k)).get .bad j = _ ∨ ((keepT l t).set .bad k (t.get .bad k)).get .bad j = _
    rw [T.get_set]
    by_cases e : j = k
    · subst e; rw [if_pos rfl]; exact .inl rfl
    · rw [if_neg e]; exact ih
noncomputable def keepS (l : List Nat) (s : St) : St := ⟨keepT l s.t, s.h⟩

section
variable {R : Type} {P : Program} {r : R} {w0 : World} {ρ ρ' : Ren} {H H' : Heap} {w w' : World}

theorem keep_rep {gl : Gl} {n : Nat} {s : St} {a : Act} (h : StRep P w0 gl n ρ s a w) (l : List Nat) : StRep P w0 gl n ρ (keepS l s) a w :=
  ⟨h.rep, fun t => by
    show VR ρ ((keepT l s.t).get .bad t) _
    rcases keepT_get l s.t t with e | e
    · rw [e]; exact h.tmps t
    · rw [e]; exact .bad _, h.size, h.defers, h.glob⟩

noncomputable def loopK (fb : St → (St → Option R) → (Nat → St → Option R) → (St → Option R) → Option R) (ins : List Nat) (ke : Nat → St → Option R) (kr : St → Option R) (N : Nat) : St → Option R :=
  Nat.rec (fun _ => none) (fun _ ih s => fb s (fun s => ih (keepS ins s)) ke kr) N

noncomputable def exitK (outs : List (Nat × List Nat)) (ke : Nat → St → Option R) (i : Nat) (s : St) : Option R :=
  List.rec none (fun x _ ih => br (Nat.beq i x.1) (ke x.1 (keepS x.2 s)) ih) outs

/-- Draws: see the next text; here what is asked of it. -/
abbrev Draw (R : Type) := Nat → Array Oper → St → (St → Option R) → Option R
abbrev Hook (R : Type) := St → (Nat → St → Option R) → (St → Option R) → Option R
/-- 'hook': loops that go on in their own way, by their bodies. -/
structure Drawer (R : Type) where
  draw : Draw R
  hook : Code → Option (Hook R)

noncomputable def evC (P : Program) (gl : Gl) (n : Nat) (C : Oracle R) (D : Drawer R) (N : Nat) (pl : Plan) : Code → St → (St → Option R) → (Nat → St → Option R) → (St → Option R) → Option R
  | .skip => fun s kn _ _ => kn s
  | .region id ops draw => fun s kn _ _ => br draw (D.draw id ops s kn) (opsK P gl n C ops ops.toList s kn)
  | .seq a b => fun s kn ke kr => evC P gl n C D N pl a s (fun s =>
      match firstReg b with
      | some i => match pl.cuts i with
        | some l => evC P gl n C D N pl b (keepS l s) kn ke kr
        | none => evC P gl n C D N pl b s kn ke kr
      | none => evC P gl n C D N pl b s kn ke kr) ke kr
  | .cond c a b => fun s kn ke kr => match ev gl s.t c with
    | .bool t => br t (evC P gl n C D N pl a s kn ke kr) (evC P gl n C D N pl b s kn ke kr)
    | _ => none
  | .block id c => fun s kn ke kr => evC P gl n C D N pl c s kn (fun i s => br (Nat.beq i id) (kn s) (ke i s)) kr
  | .loop c => fun s _ ke kr => match D.hook c with
   | some h => h s ke kr
   | none => match firstReg c with
    | some i => loopK (evC P gl n C D N pl c) (pl.ins i) (exitK (pl.outs i) ke) (fun s => match pl.rets i with
      | some l => kr (keepS l s)
      | none => none) N (keepS (pl.ins i) s)
    | none => none
  | .exit id => fun s _ ke _ => ke id s
  | .ret => fun s _ _ kr => kr s
  | .scope c => fun s kn ke kr => evC P gl n C D N pl c s kn ke kr
  | .label _ => fun s kn _ _ => kn s
  | _ => fun _ _ _ _ => none

/-- What a drawn region's own evaluation must keep. -/
def DrawSound (P : Program) (gl : Gl) (n : Nat) (D : Draw R) : Prop :=
  ∀ id ops s K r, D id ops s K = some r → ∀ (w0 : World) (ρ : Ren) (a : Act) (w : World) (Q : Exit → Act → World → Prop), StRep P w0 gl n ρ s a w →
    (∀ ρ' s' a' w', Ext ρ s.h ρ' s'.h → StRep P w0 gl n ρ' s' a' w' → K s' = some r → Q .normal a' w') → (Code.region id ops true).wp P Q a w

/-- A continuation, as the model goes on with it. -/
def Goes (P : Program) (w0 : World) (gl : Gl) (n : Nat) (ρ : Ren) (H : Heap) (K : St → Option R) (r : R) (Q : Act → World → Prop) : Prop :=
  ∀ ρ' s' a' w', Ext ρ H ρ' s'.h → StRep P w0 gl n ρ' s' a' w' → K s' = some r → Q a' w'
theorem Goes.ext {gl : Gl} {n : Nat} {K : St → Option R} {Q : Act → World → Prop} (h : Goes P w0 gl n ρ H K r Q) (he : Ext ρ H ρ' H') : Goes P w0 gl n ρ' H' K r Q :=
  fun ρ'' s' a' w' he' hs hK => h ρ'' s' a' w' (he.trans he') hs hK

def HookSound (P : Program) (gl : Gl) (n : Nat) (c : Code) (h : Hook R) : Prop :=
  ∀ s ke kr r, h s ke kr = some r → ∀ (w0 : World) (ρ : Ren) (a : Act) (w : World) (Q : Exit → Act → World → Prop), StRep P w0 gl n ρ s a w →
    (∀ i, Goes P w0 gl n ρ s.h (ke i) r (Q (.exit i))) → Goes P w0 gl n ρ s.h kr r (Q .ret) → (Code.loop c).wp P Q a w
/-- The bodies of a code's loops. -/
def subs : Code → List Code
  | .seq a b => subs a ++ subs b
  | .cond _ a b => subs a ++ subs b
  | .block _ c => subs c
  | .loop c => c :: subs c
  | .scope c => subs c
  | _ => []
structure DSound (P : Program) (gl : Gl) (n : Nat) (D : Drawer R) (L : List Code) : Prop where
  draw : DrawSound P gl n D.draw
  hook : ∀ c, c ∈ L → ∀ h, D.hook c = some h → HookSound P gl n c h

theorem exitK_some {outs : List (Nat × List Nat)} {ke : Nat → St → Option R} {i : Nat} {s : St} (h : exitK outs ke i s = some r) : ∃ l, ke i (keepS l s) = some r := by
  induction outs with
  | nil => cases h
  | cons x outs ih =>
    have h' : br (Nat.beq i x.1) (ke x.1 (keepS x.2 s)) (exitK outs ke i s) = some r := h
    cases e : Nat.beq i x.1 with
    | true =>
      rw [e] at h'
      have := Nat.eq_of_beq_eq_true e
      rw [this]; exact ⟨x.2, h'⟩
    | false => rw [e] at h'; exact ih h'

theorem evC_sound {gl : Gl} {n N : Nat} {C : Oracle R} {D : Drawer R} {pl : Plan} {L : List Code} (hC : CSound P gl C) (hD : DSound P gl n D L) : ∀ (c : Code) (_ : ∀ x ∈ subs c, x ∈ L) (ρ : Ren) (s : St) (a : Act) (w : World) (kn : St → Option R) (ke : Nat → St → Option R) (kr : St → Option R) (Q : Exit → Act → World → Prop),
    evC P gl n C D N pl c s kn ke kr = some r → StRep P w0 gl n ρ s a w → Goes P w0 gl n ρ s.h kn r (Q .normal) → (∀ i, Goes P w0 gl n ρ s.h (ke i) r (Q (.exit i))) → Goes P w0 gl n ρ s.h kr r (Q .ret) → c.wp P Q a w
  | .skip, _, ρ, s, a, w, kn, ke, kr, Q, h, hs, hn, he, hr => wp_skip (hn ρ s a w (Ext.refl _ _) hs h)
  | .region id ops draw, _, ρ, s, a, w, kn, ke, kr, Q, h, hs, hn, he, hr => by
    have h' : br draw (D.draw id ops s kn) (opsK P gl n C ops ops.toList s kn) = some r := h
    cases draw with
    | true => exact hD.draw id ops s kn r h' w0 ρ a w Q hs hn
    | false => exact wp_region_list (ops_sound hC ops.toList ρ s a w h' hs hn)
  | .seq x y, hL, ρ, s, a, w, kn, ke, kr, Q, h, hs, hn, he, hr => by
    refine wp_seq (evC_sound hC hD x (fun z hz => hL z (List.mem_append.2 (.inl hz))) ρ s a w _ ke kr _ h hs ?_ (fun i => he i) hr)
    intro ρ' s' a' w' hext hs' hK
    have fin : ∀ s'' : St, StRep P w0 gl n ρ' s'' a' w' → s''.h = s'.h → evC P gl n C D N pl y s'' kn ke kr = some r → y.wp P Q a' w' := by
      intro s'' hs'' e hK'
      rw [← e] at hext
      exact evC_sound hC hD y (fun z hz => hL z (List.mem_append.2 (.inr hz))) ρ' s'' a' w' kn ke kr Q hK' hs'' (hn.ext hext) (fun i => (he i).ext hext) (hr.ext hext)
    simp only at hK
    split at hK
    · split at hK
      · exact fin _ (keep_rep hs' _) rfl hK
      · exact fin _ hs' rfl hK
    · exact fin _ hs' rfl hK
  | .cond c x y, hL, ρ, s, a, w, kn, ke, kr, Q, h, hs, hn, he, hr => by
    have h' : (match ev gl s.t c with
      | .bool t => br t (evC P gl n C D N pl x s kn ke kr) (evC P gl n C D N pl y s kn ke kr)
      | _ => none) = some r := h
    split at h'
    · rename_i t hc
      have hv := hs.ev c
      rw [hc] at hv
      have hev : a.eval c = .bool t := by
        generalize a.eval c = v at *
        cases hv; rfl
      refine wp_cond hev ?_
      cases t with
      | true => exact evC_sound hC hD x (fun z hz => hL z (List.mem_append.2 (.inl hz))) ρ s a w kn ke kr Q h' hs hn he hr
      | false => exact evC_sound hC hD y (fun z hz => hL z (List.mem_append.2 (.inr hz))) ρ s a w kn ke kr Q h' hs hn he hr
    · cases h'
  | .block id c, hL, ρ, s, a, w, kn, ke, kr, Q, h, hs, hn, he, hr => by
    refine wp_block (evC_sound hC hD c hL ρ s a w kn (fun i s => br (Nat.beq i id) (kn s) (ke i s)) kr _ h hs hn (fun i => ?_) hr)
    intro ρ' s' a' w' hext hs' hK
    show Exit.inBlock id Q (.exit i) a' w'
    unfold Exit.inBlock
    cases e : Nat.beq i id with
    | true =>
      rw [e] at hK
      simp only
      rw [if_pos (Nat.eq_of_beq_eq_true e)]
      exact hn ρ' s' a' w' hext hs' hK
    | false =>
      rw [e] at hK
      simp only
      rw [if_neg (Nat.ne_of_beq_eq_false e)]
      exact he i ρ' s' a' w' hext hs' hK
  | .loop c, hL, ρ, s, a, w, kn, ke, kr, Q, h, hs, hn, he, hr => by
    have h' : (match D.hook c with
     | some h => h s ke kr
     | none => match firstReg c with
      | some i => loopK (evC P gl n C D N pl c) (pl.ins i) (exitK (pl.outs i) ke) (fun s => match pl.rets i with
        | some l => kr (keepS l s)
        | none => none) N (keepS (pl.ins i) s)
      | none => none) = some r := h
    split at h'
    · rename_i hk hhk
      exact hD.hook c (hL c List.mem_cons_self) hk hhk s ke kr r h' w0 ρ a w Q hs he hr
    split at h'
    · rename_i i hi
      intro b k cs
      have key : ∀ (M : Nat) (ρ' : Ren) (s' : St) (a : Act) (w : World), Ext ρ s.h ρ' s'.h → StRep P w0 gl n ρ' s' a w →
          loopK (evC P gl n C D N pl c) (pl.ins i) (exitK (pl.outs i) ke) (fun s => match pl.rets i with
            | some l => kr (keepS l s)
            | none => none) M s' = some r →
          ∃ e a' w', Q e a' w' ∧ Arrives P (lone (b.at a (.code c :: .inLoop c :: k)) cs w) b k cs e a' w' := by
        intro M
        induction M with
        | zero => intro ρ' s' a w _ _ hK; cases hK
        | succ M ih =>
          intro ρ' s' a w hext hs' hK
          have hK' : evC P gl n C D N pl c s' (fun s => loopK (evC P gl n C D N pl c) (pl.ins i) (exitK (pl.outs i) ke) (fun s => match pl.rets i with
            | some l => kr (keepS l s)
            | none => none) M (keepS (pl.ins i) s)) (exitK (pl.outs i) ke) (fun s => match pl.rets i with
            | some l => kr (keepS l s)
            | none => none) = some r := hK
          have hround := evC_sound hC hD c (fun z hz => hL z (List.mem_cons_of_mem _ hz)) ρ' s' a w _ _ _ (Exit.then (fun a' w' => ∃ e a'' w'', Q e a'' w'' ∧ Arrives P (lone (b.at a' (.code c :: .inLoop c :: k)) cs w') b k cs e a'' w'') Q) hK' hs'
            (fun ρ'' s'' a'' w'' hext' hs'' hKK => ih ρ'' (keepS (pl.ins i) s'') a'' w'' (hext.trans hext') (keep_rep hs'' _) hKK)
            (fun j ρ'' s'' a'' w'' hext' hs'' hKK => by
              obtain ⟨l, hl⟩ := exitK_some hKK
              exact he j ρ'' (keepS l s'') a'' w'' (hext.trans hext') (keep_rep hs'' l) hl)
            (fun ρ'' s'' a'' w'' hext' hs'' hKK => by
              split at hKK
              · rename_i l _
                exact hr ρ'' (keepS l s'') a'' w'' (hext.trans hext') (keep_rep hs'' l) hKK
              · cases hKK)
          obtain ⟨e, a₁, w₁, hq, harr⟩ := hround b (.inLoop c :: k) cs
          cases e with
          | normal =>
            obtain ⟨e₂, a₂, w₂, hq₂, harr₂⟩ := hq
            exact ⟨e₂, a₂, w₂, hq₂, .of_steps (Steps.trans harr (.one step_inLoop)) harr₂⟩
          | exit id => exact ⟨_, a₁, w₁, hq, .pass (x := .inLoop c) rfl (fun _ _ => .inl (by simp)) harr⟩
          | goto l => exact ⟨_, a₁, w₁, hq, .pass (x := .inLoop c) rfl (fun _ _ => .inl (by simp)) harr⟩
          | ret => exact ⟨_, a₁, w₁, hq, .pass (x := .inLoop c) rfl (fun _ _ => .inl (by simp)) harr⟩
          | panic ch => exact ⟨_, a₁, w₁, hq, .pass (x := .inLoop c) rfl (fun _ _ => .inl (by simp)) harr⟩
          | outgrown => exact ⟨_, a₁, w₁, hq, .pass (x := .inLoop c) rfl (fun _ _ => .inl (by simp)) harr⟩
      obtain ⟨e, a', w', hq, harr⟩ := key N ρ (keepS (pl.ins i) s) a w (Ext.refl _ _) (keep_rep hs _) h'
      exact ⟨e, a', w', hq, .of_steps (.one step_loop) harr⟩
    · cases h'
  | .exit id, _, ρ, s, a, w, kn, ke, kr, Q, h, hs, hn, he, hr => wp_exit (he id ρ s a w (Ext.refl _ _) hs h)
  | .ret, _, ρ, s, a, w, kn, ke, kr, Q, h, hs, hn, he, hr => wp_ret (hr ρ s a w (Ext.refl _ _) hs h)
  | .rangeFunc _ _ _ _, _, _, _, _, _, _, _, _, _, h, _, _, _, _ => by cases h
  | .scope c, hL, ρ, s, a, w, kn, ke, kr, Q, h, hs, hn, he, hr => wp_scope_straight (evC_sound hC hD c hL ρ s a w kn ke kr (Exit.noGoto Q) h hs hn he hr)
  | .label _, _, ρ, s, a, w, kn, ke, kr, Q, h, hs, hn, he, hr => wp_label (hn ρ s a w (Ext.refl _ _) hs h)
  | .goto _, _, _, _, _, _, _, _, _, _, h, _, _, _, _ => by cases h
  | .refuse _, _, _, _, _, _, _, _, _, _, h, _, _, _, _ => by cases h
end
end Go.Ab
