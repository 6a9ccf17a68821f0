/- The abstract machine, 30: loops over maps, whatever the order of their entries. -/
import Derived.Test.YtdhghfkempgejaaGreatDoorAbTable
import Derived.Maps.RangeRun
import Derived.Deep.LoopGhost
namespace Go.Ab
open Go.RowKit Go.ChangeMaps

structure RP where
  r : Nat
  it : Nat
  nx : Nat
  c : Nat
  bid : Nat
  body : Code

def nextPart (o1 o2 : Oper) : Option (Nat × Nat × Nat) :=
  match o1.op, o1.dst, o1.guard, o2.op, o2.dst, o2.guard with
  | .next (.tmp it) false, some nx, none, .extract (.tmp nx') 0, some c, none => if nx' = nx then some (it, nx, c) else none
  | _, _, _, _, _, _ => none
/-- The parts of a loop's body that steps along a map. -/
def rangeParts : Code → Option RP
  | .seq (.region r ops false) (.seq (.cond (.tmp c) .skip (.exit bid)) body) => match ops.toList with
    | [o1, o2] => match nextPart o1 o2 with
      | some p => if p.2.2 = c then some ⟨r, p.1, p.2.1, c, bid, body⟩ else none
      | none => none
    | _ => none
  | _ => none

noncomputable def leftE (seen : List Nat) (es : List ME) : List ME := List.rec [] (fun e _ ih => br (memB seen e.born) ih (e :: ih)) es
/-- Stamps ascend, and are all less than 'hi'. -/
noncomputable def incB (hi : Nat) (es : List ME) : Nat → Bool := List.rec (fun lo => Nat.ble lo hi) (fun e _ ih lo => br (Nat.ble lo e.born) (ih (Nat.succ e.born)) false) es
/-- What kind a temporary's value is of. -/
inductive KD where
  | int (k : IntKind) | bool | str | sl | ptr | map | agg | any
noncomputable def kdB : KD → AV → Bool
  | .int k, .int k' _ => kEq k k'
  | .bool, .bool _ => true
  | .str, .str _ => true
  | .sl, .sl _ => true
  | .ptr, .ptr (some _) => true
  | .map, .map _ => true
  | .agg, .agg _ => true
  | .any, _ => true
  | _, _ => false
noncomputable def kdsB (l : List (Nat × KD)) (t : T AV) : Bool := List.rec true (fun x _ ih => br (kdB x.2 (t.get .bad x.1)) ih false) l
noncomputable def forget (b : Nat) (s : St) : St := ⟨s.t, br (s.h.get b).ro s.h (s.h.put b .dead)⟩
noncomputable def outS (q : RP) (s : St) : St := ⟨(s.t.set .bad q.nx (.tuple [.bool false])).set .bad q.c (.bool false), s.h⟩
noncomputable def inS (q : RP) (b m since : Nat) (seen : List Nat) (clock : Nat) (e : ME) (s : St) : St :=
  ⟨(s.t.set .bad q.nx (.tuple [.bool true, e.k, e.v])).set .bad q.c (.bool true), s.h.put b (.iter (some m) since (seen ++ [e.born]) clock)⟩

section
variable {R : Type}
noncomputable def keR (pl : Plan) (q : RP) (b : Nat) (ke : Nat → St → Option R) : Nat → St → Option R := fun i s => exitK (pl.outs q.r) ke i (forget b s)
noncomputable def krR (pl : Plan) (q : RP) (b : Nat) (kr : St → Option R) : St → Option R := fun s => match pl.rets q.r with
  | some l => kr (keepS l (forget b s))
  | none => none
noncomputable def walkK (fb : Ev R) (pl : Plan) (q : RP) (b m since clock : Nat) (ke : Nat → St → Option R) (kr : St → Option R) (left : List ME) : List Nat → St → Option R :=
  List.rec (fun _ s => keR pl q b ke q.bid (outS q s))
    (fun e _ ih seen s => fb q.body (inS q b m since seen clock e s) (fun s' => ih (seen ++ [e.born]) (keepS (pl.ins q.r) s')) (keR pl q b ke) (krR pl q b kr)) left
noncomputable def rangeAt (H : Heap) (a : AA) (k : Nat → Nat → List Nat → Nat → List ME → Nat → Option R) (k0 : Option R) : Option R :=
  br (Nat.beq a.o 0) (br (Nat.beq a.g 0) (match H.get a.b with
    | .iter o since seen last => match o with
      | some m => (H.mapAt m).bind fun p => k m since seen last p.1 p.2
      | none => k0
    | _ => none) none) none
noncomputable def ptrK (v : AV) (k : AA → Option R) : Option R :=
  match v with
  | .ptr o => o.bind k
  | _ => none
noncomputable def rangeH (n : Nat) (fb : Ev R) (pl : Plan) (q : RP) (kds : List (Nat × KD)) (pre : St → List ME → Bool) : Hook R := fun s0 ke kr =>
  br (Nat.blt q.nx n) (br (Nat.blt q.c n) ((fun s => br (kdsB kds s.t) (ptrK (s.t.get .bad q.it) fun a => rangeAt s.h a
    (fun m since seen last es clock => br (incB since es 0) (br (Nat.ble since last) (br (Nat.ble since clock) (br (pre s es) (walkK fb pl q a.b m since clock ke kr (leftE seen es) seen s) none) none) none) none)
    (keR pl q a.b ke q.bid (outS q s))) none) (keepS (pl.ins q.r) s0)) none) none

/-- Whichever entry comes next, the loop goes on to 'r'. -/
def PermP (fb : Ev R) (pl : Plan) (q : RP) (b m since clock : Nat) (es : List ME) (ke : Nat → St → Option R) (kr : St → Option R) (r : R) : Nat → List Nat → Nat → St → Prop
  | 0, _, _, _ => False
  | N + 1, seen, last, s => s.t.get .bad q.it = .ptr (some ⟨b, 0, 0⟩) ∧ s.h.get b = .iter (some m) since seen last ∧ s.h.get m = .map es clock ∧ since ≤ last ∧
      (leftE seen es = [] → keR pl q b ke q.bid (outS q s) = some r) ∧
      ∀ e, e ∈ leftE seen es → fb q.body (inS q b m since seen clock e s)
        (fun s' => open Classical in if PermP fb pl q b m since clock es ke kr r N (seen ++ [e.born]) clock (keepS (pl.ins q.r) s') then some r else none) (keR pl q b ke) (krR pl q b kr) = some r
/-- What must be shown of a loop over a map: that the order does not matter. -/
def SiteOK (fb : Ev R) (pl : Plan) (q : RP) (kds : List (Nat × KD)) (pre : St → List ME → Bool) : Prop :=
  ∀ (ke : Nat → St → Option R) (kr : St → Option R) (r : R) (b m since clock : Nat) (es : List ME) (seen : List Nat) (last : Nat) (s0 : St),
    (keepS (pl.ins q.r) s0).t.get .bad q.it = .ptr (some ⟨b, 0, 0⟩) → s0.h.get b = .iter (some m) since seen last → s0.h.get m = .map es clock → incB since es 0 = true → since ≤ last → since ≤ clock → pre (keepS (pl.ins q.r) s0) es = true →
    kdsB kds (keepS (pl.ins q.r) s0).t = true → walkK fb pl q b m since clock ke kr (leftE seen es) seen (keepS (pl.ins q.r) s0) = some r → ∃ N, PermP fb pl q b m since clock es ke kr r N seen last (keepS (pl.ins q.r) s0)
end

section
variable {R : Type} {P : Program} {gl : Gl} {n : Nat} {w0 : World} {ρ ρ' : Ren} {H H' : Heap} {w w' : World}
theorem incB_all {hi : Nat} : ∀ {es : List ME} {lo : Nat}, incB hi es lo = true → lo ≤ hi ∧ ∀ e ∈ es, lo ≤ e.born ∧ e.born < hi
  | [], lo, h => ⟨ble_le h, fun e he => by cases he⟩
  | x :: es, lo, h => by
    have h' : br (Nat.ble lo x.born) (incB hi es (x.born + 1)) false = true := h
    cases hq : Nat.ble lo x.born with
    | false => rw [hq] at h'; cases h'
    | true =>
      rw [hq, br_true] at h'
      have h1 := ble_le hq
      obtain ⟨h2, h3⟩ := incB_all h'
      refine ⟨by omega, fun e he => ?_⟩
      rcases List.mem_cons.1 he with rfl | he
      · omega
      · have := h3 e he; omega
theorem incB_find {hi : Nat} : ∀ {es : List ME} {lo : Nat}, incB hi es lo = true → ∀ e ∈ es, findB es e.born = some e
  | [], lo, h, e, he => by cases he
  | x :: es, lo, h, e, he => by
    have h' : br (Nat.ble lo x.born) (incB hi es (x.born + 1)) false = true := h
    cases hq : Nat.ble lo x.born with
    | false => rw [hq] at h'; cases h'
    | true =>
      rw [hq, br_true] at h'
      rw [findB_cons]
      rcases List.mem_cons.1 he with rfl | he
      · rw [Nat.beq_refl, br_true]
      · have := (incB_all h').2 e he
        rw [show Nat.beq x.born e.born = false from by
          cases hb : Nat.beq x.born e.born with
          | false => rfl
          | true => have := Nat.eq_of_beq_eq_true hb; omega, br_false]
        exact incB_find h' e he
theorem incB_inj {hi : Nat} {es : List ME} {lo : Nat} (h : incB hi es lo = true) {x y : ME} (hx : x ∈ es) (hy : y ∈ es) (e : x.born = y.born) : x = y := by
  have h1 := incB_find h x hx
  have h2 := incB_find h y hy
  rw [e, h2] at h1
  exact (Option.some.inj h1).symm
theorem EntriesRep.mem {es : List ME} {es' : List MapEntry} (h : EntriesRep ρ es es') : ∀ y ∈ es', ∃ x ∈ es, EntryRep ρ x y := by
  induction h with
  | nil => intro y hy; cases hy
  | cons a b ih =>
    intro y hy
    rcases List.mem_cons.1 hy with rfl | hy
    · exact ⟨_, List.mem_cons_self, a⟩
    · obtain ⟨x, hx, hr⟩ := ih y hy
      exact ⟨x, List.mem_cons_of_mem _ hx, hr⟩
theorem leftE_mem {seen : List Nat} {es : List ME} {e : ME} : e ∈ leftE seen es ↔ e ∈ es ∧ e.born ∉ seen := by
  induction es with
  | nil => simp [leftE]
  | cons x es ih =>
    show e ∈ br (memB seen x.born) (leftE seen es) (x :: leftE seen es) ↔ _
    cases h : memB seen x.born with
    | true =>
      rw [br_true, ih, List.mem_cons]
      have := memB_mem.1 h
      constructor
      · rintro ⟨a, c⟩; exact ⟨.inr a, c⟩
      · rintro ⟨rfl | a, c⟩
        · exact absurd this c
        · exact ⟨a, c⟩
    | false =>
      rw [br_false, List.mem_cons, ih, List.mem_cons]
      have : x.born ∉ seen := fun q => by rw [memB_mem.2 q] at h; cases h
      constructor
      · rintro (rfl | ⟨a, c⟩)
        · exact ⟨.inl rfl, this⟩
        · exact ⟨.inr a, c⟩
      · rintro ⟨rfl | a, c⟩
        · exact .inl rfl
        · exact .inr ⟨a, c⟩
theorem left_rep {seen : List Nat} {es : List ME} {es' : Array MapEntry} (h : EntriesRep ρ es es'.toList) {y : MapEntry} (hy : y ∈ (leftOf es' seen.toArray).toList) : ∃ e, e ∈ leftE seen es ∧ EntryRep ρ e y := by
  unfold leftOf at hy
  simp only [Array.toList_filter, List.mem_filter] at hy
  obtain ⟨x, hx, hr⟩ := h.mem y hy.1
  refine ⟨x, leftE_mem.2 ⟨hx, fun q => ?_⟩, hr⟩
  have := hy.2
  rw [← hr.born] at this
  simp [q] at this
theorem EntriesRep.mem' {es : List ME} {es' : List MapEntry} (h : EntriesRep ρ es es') : ∀ x ∈ es, ∃ y ∈ es', EntryRep ρ x y := by
  induction h with
  | nil => intro y hy; cases hy
  | cons a b ih =>
    intro y hy
    rcases List.mem_cons.1 hy with rfl | hy
    · exact ⟨_, List.mem_cons_self, a⟩
    · obtain ⟨x, hx, hr⟩ := ih y hy
      exact ⟨x, List.mem_cons_of_mem _ hx, hr⟩
theorem left_nil {seen : List Nat} {es : List ME} {es' : Array MapEntry} (h : EntriesRep ρ es es'.toList) (h0 : (leftOf es' seen.toArray).size = 0) : leftE seen es = [] := by
  rw [List.eq_nil_iff_forall_not_mem]
  intro e he
  obtain ⟨h1, h2⟩ := leftE_mem.1 he
  obtain ⟨y, hy, hr⟩ := h.mem' e h1
  have : y ∈ (leftOf es' seen.toArray).toList := by
    unfold leftOf
    simp only [Array.toList_filter, List.mem_filter]
    exact ⟨hy, by rw [← hr.born]; simp [h2]⟩
  have h3 : (leftOf es' seen.toArray).toList = [] := by
    rw [← List.length_eq_zero_iff, Array.length_toList]; exact h0
  rw [h3] at this; cases this

theorem Rep.forget (h : Rep P w0 ρ H w) {b : Nat} {l : Loc} (hl : ρ b 0 = some l) (hro : (H.get b).ro = false) : Rep P w0 ρ (H.put b .dead) w ∧ Ext ρ H ρ (H.put b .dead) := by
  refine ⟨?_, Ext.change hl _ (Ren.le_refl ρ) (fun _ _ _ => rfl)⟩
  refine h.change b _ (Ren.le_refl ρ) (fun _ _ _ => rfl) (h.dom b 0 l hl).1 hro rfl rfl rfl (Nat.le_refl _) (fun _ _ _ => rfl) ?_ ?_ ?_
  · intro g l' hl'
    exact ⟨(h.dom b g l' hl').2, trivial, .inl ⟨g, l', hl', rfl⟩⟩
  · intro g l1 g' l2 e1 e2 hcb
    exact h.al b g l1 g' l2 e1 e2 hcb
  · intro g l1 g0 e1 hx
    obtain ⟨_, _, _, _, hx⟩ := hx
    cases hx
theorem StRep.put {s : St} {a : Act} {t : Nat} {v : AV} {v' : Value} (h : StRep P w0 gl n ρ s a w) (ht : t < n) (hv : VR ρ v v') : StRep P w0 gl n ρ ⟨s.t.set .bad t v, s.h⟩ (a.put (some t) v') w :=
  ⟨h.rep, fun j => by
    show VR ρ ((s.t.set .bad t v).get .bad j) ((a.tmps.setIfInBounds t v').getD j undef)
    rw [T.get_set]
    by_cases e : j = t
    · subst e
      rw [if_pos rfl, Array.getD_eq_getD_getElem?, Array.getElem?_setIfInBounds_self_of_lt (by rw [h.size]; exact ht)]
      exact hv
    · rw [if_neg e, Array.getD_eq_getD_getElem?, Array.getElem?_setIfInBounds_ne (fun q => e q.symm), ← Array.getD_eq_getD_getElem?]
      exact h.tmps j, by show (a.tmps.setIfInBounds t v').size = n; simp [h.size], h.defers, h.glob⟩

theorem nextPart_some {o1 o2 : Oper} {it nx c : Nat} (h : nextPart o1 o2 = some (it, nx, c)) : o1.op = .next (.tmp it) false ∧ o1.dst = some nx ∧ o1.guard = none ∧ o2.op = .extract (.tmp nx) 0 ∧ o2.dst = some c ∧ o2.guard = none := by
  unfold nextPart at h
  split at h
  · rename_i it' nx' nx2 c' h1 h2 h3 h4 h5 h6
    split at h
    · rename_i e
      cases h; subst e
      exact ⟨h1, h2, h3, h4, h5, h6⟩
    · cases h
  · cases h
theorem rangeParts_some {c : Code} {q : RP} (h : rangeParts c = some q) : ∃ ops o1 o2, c = .seq (.region q.r ops false) (.seq (.cond (.tmp q.c) .skip (.exit q.bid)) q.body) ∧ ops.toList = [o1, o2] ∧ nextPart o1 o2 = some (q.it, q.nx, q.c) := by
  unfold rangeParts at h
  split at h
  · rename_i r ops c bid body
    split at h
    · rename_i o1 o2 hl
      split at h
      · rename_i p hp
        split at h
        · rename_i e
          cases h
          obtain ⟨a, b, d⟩ := p
          simp only at e; subst e
          exact ⟨ops, o1, o2, rfl, hl, hp⟩
        · cases h
      · cases h
    · cases h
  · cases h
theorem getPtr {s : St} {a : Act} (hs : StRep P w0 gl n ρ s a w) {it b : Nat} (h : s.t.get .bad it = .ptr (some ⟨b, 0, 0⟩)) : ∃ l, ρ b 0 = some l ∧ a.tmps.getD it undef = .pointer (some (l.at 0)) := by
  have := hs.tmps it
  rw [h] at this
  generalize hv : a.tmps.getD it undef = v at *
  cases this with
  | ptr hl _ => exact ⟨_, hl, rfl⟩

theorem put_get {a : Act} {t : Nat} {v : Value} (h : t < a.tmps.size) : (a.put (some t) v).tmps.getD t undef = v := by
  show (a.tmps.setIfInBounds t v).getD t undef = v
  rw [Array.getD_eq_getD_getElem?, Array.getElem?_setIfInBounds_self_of_lt h]
  rfl
theorem wp_next {r it nx c : Nat} {ops : Array Oper} {o1 o2 : Oper} {rest : Code} {Q : Exit → Act → World → Prop} {a : Act} {w w2 : World} {t : Bool} {l : List Value} (hops : ops.toList = [o1, o2]) (hnp : nextPart o1 o2 = some (it, nx, c)) (hnx : nx < a.tmps.size)
    (run : ∀ ty, (Instr.next (a.tmps.getD it undef) false ty).run P w = .ok (.tuple (.bool t :: l).toArray) w2)
    (h : rest.wp P Q ((a.put (some nx) (.tuple (.bool t :: l).toArray)).put (some c) (.bool t)) w2) : (Code.seq (.region r ops false) rest).wp P Q a w := by
  obtain ⟨e1, e2, e3, e4, e5, e6⟩ := nextPart_some hnp
  refine wp_seq (wp_region_list ?_)
  rw [hops]
  have hrun1 : (execOp a.eval o1).run P w = .ok (.value (.tuple (.bool t :: l).toArray)) w2 := by
    have : a.eval (.tmp it) = a.tmps.getD it undef := rfl
    simp only [execOp, e1, Sem.run_bind, Sem.run_pure, this, run, Result.andThen_ok]
  have hrun2 : (execOp (a.put (some nx) (.tuple (.bool t :: l).toArray)).eval o2).run P w2 = .ok (.value (.bool t)) w2 := by
    have : (a.put (some nx) (.tuple (.bool t :: l).toArray)).eval (.tmp nx) = .tuple (.bool t :: l).toArray := put_get hnx
    simp only [execOp, e4, this, Instr.extract]
    simp
  unfold wpList
  rw [show Region.wanted o1 (yielded ops a.tmps) = true by unfold Region.wanted; rw [e3], if_pos rfl]
  refine .inl ?_
  unfold Oper.wp
  rw [hrun1, Oper.upon_value, e2]
  unfold wpList
  rw [show Region.wanted o2 (yielded ops (a.put (some nx) (.tuple (.bool t :: l).toArray)).tmps) = true by unfold Region.wanted; rw [e6], if_pos rfl]
  refine .inl ?_
  unfold Oper.wp
  rw [hrun2, Oper.upon_value, e5]
  exact h

theorem rangeH_sound {C : Oracle R} {D : Drawer R} {N : Nat} {pl : Plan} {L : List Code} (hC : CSound P gl C) (hD : DSound P gl n D L) {c : Code} {q : RP} {kds : List (Nat × KD)} {pre : St → List ME → Bool} (hq : rangeParts c = some q)
    (hL : ∀ x ∈ subs q.body, x ∈ L) (hsite : SiteOK (evC P gl n C D N pl) pl q kds pre) : HookSound P gl n c (rangeH n (evC P gl n C D N pl) pl q kds pre) := by
  intro s0 ke kr r h w0 ρ a w Q hs0 he hr
  obtain ⟨hnx, h⟩ := br_some h
  obtain ⟨hc, h⟩ := br_some h
  have hnx := blt_lt hnx
  have hc := blt_lt hc
  obtain ⟨ops, o1, o2, rfl, hops, hnp⟩ := rangeParts_some hq
  have hs := keep_rep hs0 (pl.ins q.r)
  have hsk : ∃ s0, keepS (pl.ins q.r) s0 = keepS (pl.ins q.r) s0 := ⟨s0, rfl⟩
  -- leaving the loop: the iterator is forgotten
  have hleave : ∀ (b : Nat) (K : St → Option R) (Q' : Act → World → Prop), Goes P w0 gl n ρ s0.h K r Q' → ∀ ρ' s' a' w' l, Ext ρ s0.h ρ' s'.h → StRep P w0 gl n ρ' s' a' w' → ρ' b 0 = some l → (∃ ls, K (keepS ls (forget b s')) = some r) → Q' a' w' := by
    intro b K Q' hK ρ' s' a' w' l hext hs' hl ⟨ls, hk⟩
    cases hro : (s'.h.get b).ro with
    | true =>
      have e : forget b s' = s' := by unfold forget; rw [hro, br_true]
      rw [e] at hk
      exact hK ρ' (keepS ls s') a' w' hext (keep_rep hs' ls) hk
    | false =>
      have e : forget b s' = ⟨s'.t, s'.h.put b .dead⟩ := by unfold forget; rw [hro, br_false]
      rw [e] at hk
      have hf := hs'.rep.forget hl hro
      exact hK ρ' (keepS ls ⟨s'.t, s'.h.put b .dead⟩) a' w' (hext.trans hf.2) (keep_rep (s := ⟨s'.t, s'.h.put b .dead⟩) ⟨hf.1, hs'.tmps, hs'.size, hs'.defers, hs'.glob⟩ ls) hk
  have hkeR : ∀ (b i : Nat), ∀ ρ' s' a' w' l, Ext ρ s0.h ρ' s'.h → StRep P w0 gl n ρ' s' a' w' → ρ' b 0 = some l → keR pl q b ke i s' = some r → Q (.exit i) a' w' := by
    intro b i ρ' s' a' w' l hext hs' hl hk
    obtain ⟨ls, hk⟩ := exitK_some hk
    exact hleave b (ke i) _ (he i) ρ' s' a' w' l hext hs' hl ⟨ls, hk⟩
  have hkrR : ∀ (b : Nat), ∀ ρ' s' a' w' l, Ext ρ s0.h ρ' s'.h → StRep P w0 gl n ρ' s' a' w' → ρ' b 0 = some l → krR pl q b kr s' = some r → Q .ret a' w' := by
    intro b ρ' s' a' w' l hext hs' hl hk
    unfold krR at hk
    split at hk
    · rename_i ls _
      exact hleave b kr _ hr ρ' s' a' w' l hext hs' hl ⟨ls, hk⟩
    · cases hk
  -- nothing is left
  have hout : ∀ (Q1 : Act → World → Prop) (b : Nat) (ρ' : Ren) (s' : St) (a' : Act) (w' : World) (l : Loc), Ext ρ s0.h ρ' s'.h → StRep P w0 gl n ρ' s' a' w' → ρ' b 0 = some l → keR pl q b ke q.bid (outS q s') = some r →
      (∀ ty, (Instr.next (a'.tmps.getD q.it undef) false ty).run P w' = .ok (.tuple #[.bool false]) w') → (Code.seq (.region q.r ops false) (.seq (.cond (.tmp q.c) .skip (.exit q.bid)) q.body)).wp P (Exit.then Q1 Q) a' w' := by
    intro Q1 b ρ' s' a' w' l hext hs' hl hk hrun
    refine wp_next (t := false) (l := []) hops hnp (by rw [hs'.size]; exact hnx) hrun ?_
    have hs2 : StRep P w0 gl n ρ' (outS q s') ((a'.put (some q.nx) (.tuple #[.bool false])).put (some q.c) (.bool false)) w' :=
      (hs'.put hnx (.tuple (c := #[.bool false]) (.cons (.bool false) .nil))).put hc (.bool false)
    refine wp_seq (wp_cond (t := false) (put_get (by show q.c < (a'.tmps.setIfInBounds _ _).size; simp [hs'.size, hc])) (wp_exit ?_))
    exact hkeR b q.bid ρ' (outS q s') _ w' l hext hs2 hl hk
  have hsite' := hsite ke kr r
  clear hsite
  replace hsite' := fun b m since clock es seen last => hsite' b m since clock es seen last s0
  have hh0 : (keepS (pl.ins q.r) s0).h = s0.h := rfl
  generalize hs1 : keepS (pl.ins q.r) s0 = s at *
  have hh : s.h = s0.h := hh0
  obtain ⟨hkd, h⟩ := br_some h
  unfold ptrK at h
  split at h
  · rename_i op hp
    obtain ⟨⟨b, g, o⟩, hop, h⟩ := bind_some h
    rw [hop] at hp
    unfold rangeAt at h
    obtain ⟨ho0, h⟩ := br_some h
    obtain ⟨hg0, h⟩ := br_some h
    have ho1 : o = 0 := Nat.eq_of_beq_eq_true ho0
    have hg1 : g = 0 := Nat.eq_of_beq_eq_true hg0
    rw [ho1, hg1] at hp
    clear ho0 hg0 ho1 hg1
    split at h
    · rename_i om since seen last hb
      cases om with
      | none =>
      obtain ⟨l, hl, hptr⟩ := getPtr hs hp
      have hblk := hs.rep.blk b 0 l hl
      rw [hb] at hblk
      obtain ⟨_, hs0', hw⟩ := hblk
      have hat : l.at 0 = ⟨l.cb, 0, none⟩ := by unfold Loc.at; rw [hs0', Nat.zero_sub]
      refine wp_loop_ghost (fun _ a' w' => a' = a ∧ w' = w) 0 ⟨rfl, rfl⟩ ?_
      rintro k a' w' ⟨rfl, rfl⟩
      refine hout _ b ρ s a' w' l (by rw [hh]; exact Ext.refl _ _) hs hl h fun ty => ?_
      rw [hptr, hat]
      simp only [Instr.next, Sem.run_bind, run_getIter hw, Result.andThen_ok, Sem.run_pure]
      | some m =>
      obtain ⟨⟨es, clock⟩, hmb, h⟩ := bind_some h
      obtain ⟨hborn, h⟩ := br_some h
      obtain ⟨hsl, h⟩ := br_some h
      obtain ⟨hsk2, h⟩ := br_some h
      obtain ⟨hpre, h⟩ := br_some h
      have hm := mapAt_some hmb
      have hsl := ble_le hsl
      obtain ⟨k, hperm⟩ := hsite' b m since clock es seen last hp (by rw [← hh]; exact hb) (by rw [← hh]; exact hm) hborn hsl (ble_le hsk2) hpre hkd h
      let I : Nat → Act → World → Prop := fun k a w => ∃ ρ' s' seen last, Ext ρ s0.h ρ' s'.h ∧ StRep P w0 gl n ρ' s' a w ∧ PermP (evC P gl n C D N pl) pl q b m since clock es ke kr r k seen last s'
      refine wp_loop_ghost I k ⟨ρ, s, seen, last, by rw [hh]; exact Ext.refl _ _, hs, hperm⟩ ?_
      rintro k a w ⟨ρ', s', seen, last, hext, hs', hp'⟩
      cases k with
      | zero => exact hp'.elim
      | succ k =>
        obtain ⟨g1, g2, g3, g4, g5, g6⟩ := hp'
        obtain ⟨l, hl, hptr⟩ := getPtr hs' g1
        have hblk := hs'.rep.blk b 0 l hl
        rw [g2] at hblk
        obtain ⟨_, hs0', l', hl', hw⟩ := hblk
        obtain ⟨es', hw', hes⟩ := hs'.rep.mapBlk hl' g3
        have hat : l.at 0 = ⟨l.cb, 0, none⟩ := by unfold Loc.at; rw [hs0', Nat.zero_sub]
        have hold : ∀ x ∈ es'.toList, x.born < since := by
          intro y hy
          obtain ⟨x, hx, hxy⟩ := hes.mem y hy
          rw [← hxy.born]; exact ((incB_all hborn).2 x hx).2
        rcases run_next_at (P := P) w 0 l.cb l'.cb since last seen.toArray es' clock hw hw' hold g4 with ⟨q1, q2⟩ | ⟨e', he', w1, hw1, q2⟩
        · refine hout _ b ρ' s' a w l hext hs' hl (g5 (left_nil hes q1)) fun ty => ?_
          rw [hptr, hat]; exact q2
        · obtain ⟨e, he1, her⟩ := left_rep hes he'
          have hrep1 : Rep P w0 ρ' s'.h w1 := by
            rcases hw1 with rfl | rfl
            · exact hs'.rep
            · exact hs'.rep.drew
          have hheap : w1.heap = w.heap := by rcases hw1 with rfl | rfl <;> rfl
          have hput := hrep1.put0 (o := .mapIter (some l'.cb) since (seen.toArray.push e'.born) clock) (x := .iter (some m) since (seen ++ [e.born]) clock) hl (hrep1.iter_gen g2) (by rw [g2]; rfl)
            ⟨rfl, hs0', l', hl', by
              have hcb := (hrep1.dom _ _ _ hl).2
              rw [her.born]
              simp [hcb]⟩ (by intro _ _ _ _ _ e; cases e)
          refine wp_next (t := true) (l := [e'.key, e'.val]) (w2 := setBlock w1 l.cb (.mapIter (some l'.cb) since (seen.toArray.push e'.born) clock)) hops hnp (by rw [hs'.size]; exact hnx) (fun ty => by rw [hptr, hat]; exact q2) ?_
          have hs2 : StRep P w0 gl n ρ' (inS q b m since seen clock e s') ((a.put (some q.nx) (.tuple #[.bool true, e'.key, e'.val])).put (some q.c) (.bool true)) (setBlock w1 l.cb (.mapIter (some l'.cb) since (seen.toArray.push e'.born) clock)) := by
            have h3 : StRep P w0 gl n ρ' ⟨s'.t, s'.h.put b (.iter (some m) since (seen ++ [e.born]) clock)⟩ a (setBlock w1 l.cb (.mapIter (some l'.cb) since (seen.toArray.push e'.born) clock)) := ⟨hput.1, hs'.tmps, hs'.size, hs'.defers, hs'.glob⟩
            exact (h3.put hnx (.tuple (c := #[.bool true, e'.key, e'.val]) (.cons (.bool true) (.cons her.k (.cons her.v .nil))))).put hc (.bool true)
          refine wp_seq (wp_cond (t := true) (put_get (by show q.c < (a.tmps.setIfInBounds _ _).size; simp [hs'.size, hc])) (wp_skip ?_))
          have hext2 : Ext ρ s0.h ρ' (inS q b m since seen clock e s').h := hext.trans hput.2
          refine evC_sound hC hD q.body hL ρ' _ _ _ _ _ _ _ (g6 e he1) hs2 ?_ ?_ ?_
          · intro ρ'' s'' a'' w'' hx hs'' hK
            refine ⟨k, Nat.lt_succ_self k, ρ'', keepS (pl.ins q.r) s'', seen ++ [e.born], clock, hext2.trans hx, keep_rep hs'' _, ?_⟩
            by_cases hpp : PermP (evC P gl n C D N pl) pl q b m since clock es ke kr r k (seen ++ [e.born]) clock (keepS (pl.ins q.r) s'')
            · exact hpp
            · simp only [hpp, if_false] at hK; cases hK
          · intro i ρ'' s'' a'' w'' hx hs'' hK
            exact hkeR b i ρ'' s'' a'' w'' l (hext2.trans hx) hs'' (hx.le _ _ _ hl) hK
          · intro ρ'' s'' a'' w'' hx hs'' hK
            exact hkrR b ρ'' s'' a'' w'' l (hext2.trans hx) hs'' (hx.le _ _ _ hl) hK
    · cases h
  · cases h
end
end Go.Ab
