/- The abstract machine, 20: functions, and all of a program's functions by depth. -/
import Derived.Test.YtdhghfkempgejaaGreatDoorAbCode
namespace Go.Ab
open Go.RowKit
section
variable {R : Type} {P : Program} {r : R} {w0 : World} {ρ ρ' : Ren} {H H' : Heap} {w w' : World}

noncomputable def initT (args : List AV) : Nat → T AV := List.rec (fun _ => .leaf) (fun v _ ih i => (ih (Nat.succ i)).set .bad i v) args
theorem initT_get (args : List AV) : ∀ (i j : Nat), (initT args i).get .bad j = if j < i then .bad else (args[j - i]?).getD .bad := by
  induction args with
  | nil => intro i j; show AV.bad = _; simp
  | cons v l ih =>
    intro i j
    show ((initT l (i + 1)).set .bad i v).get .bad j = _
    rw [T.get_set]
    by_cases e : j = i
    · subst e; rw [if_pos rfl, if_neg (Nat.lt_irrefl _)]; simp
    · rw [if_neg e, ih]
      by_cases h : j < i
      · rw [if_pos (by omega), if_pos h]
      · rw [if_neg (by omega), if_neg h, show j - i = (j - (i + 1)) + 1 by omega]
        simp

noncomputable def resK (P : Program) (s : St) (l : List (ResultVar × TypeId)) : (List AV → Option R) → Option R :=
  List.rec (fun K => K []) (fun x _ ih K => match x.1 with
    | .tmp t => castK (tyOf P x.2) (s.t.get .bad t) fun v => ih fun vs => K (v :: vs)
    | .cell a ty => loadK P s.h ty (s.t.get .bad a) fun v => ih fun vs => K (v :: vs)) l
def one : List AV → AV
  | [v] => v
  | vs => .tuple vs
noncomputable def retK (P : Program) (fn : Func) (s : St) (fin : AV → Heap → Option R) : Option R :=
  resK P s (fn.results.toList.zip fn.resultTypes.toList) fun vs => fin (one vs) s.h

noncomputable def bodyF (P : Program) (gl : Gl) (C : Oracle R) (D : Drawer R) (N : Nat) (pl : Plan) (fn : Func) (args : List AV) (H : Heap) (fin : AV → Heap → Option R) : Option R :=
  match fn.body with
  | some c => br (Nat.ble args.length fn.ntmps) (br (Nat.beq fn.results.size fn.resultTypes.size) (evC P gl fn.ntmps C D N pl c ⟨initT args 0, H⟩ (fun s => retK P fn s fin) (fun _ _ => none) (fun s => retK P fn s fin)) none) none
  | none => none

theorem res_sound {gl : Gl} {n : Nat} {s : St} {a : Act} (hs : StRep P w0 gl n ρ s a w) : ∀ {l : List (ResultVar × TypeId)} {K : List AV → Option R}, resK P s l K = some r →
    ∃ (vs : List AV) (vs' : List Value), K vs = some r ∧ VRs ρ vs vs' ∧ ((l.map (·.1)).mapM fun x => (match x with
      | .tmp t => pure (a.tmps.getD t undef)
      | .cell a' t => do loadVar t (← asAddr (a.tmps.getD a' undef)) : Sem Value)).run P w = .ok vs' w
  | [], K, h => ⟨[], [], h, .nil, rfl⟩
  | x :: l, K, h => by
    obtain ⟨rv, ty⟩ := x
    cases rv with
    | tmp t =>
      have h' : castK (tyOf P ty) (s.t.get .bad t) (fun v => resK P s l fun vs => K (v :: vs)) = some r := h
      have h2 := castK_some (K := fun v => resK P s l fun vs => K (v :: vs)) h'
      obtain ⟨vs, vs', hK, hv, hrun⟩ := res_sound hs h2
      refine ⟨_, _, hK, .cons (hs.tmps t) hv, ?_⟩
      rw [List.map_cons, List.mapM_cons]
      simp only [Sem.run_bind, Sem.run_pure, Result.andThen_ok, hrun]
    | cell ad ty' =>
      have h' : loadK P s.h ty' (s.t.get .bad ad) (fun v => resK P s l fun vs => K (v :: vs)) = some r := h
      obtain ⟨v, h2, hl⟩ := load_inv h'
      obtain ⟨vs, vs', hK, hv, hrun⟩ := res_sound hs h2
      obtain ⟨v', hv', hr'⟩ := hl w0 ρ _ w hs.rep (hs.tmps ad)
      refine ⟨_, _, hK, .cons hv' hv, ?_⟩
      rw [List.map_cons, List.mapM_cons]
      have hp : ∃ p, a.tmps.getD ad undef = .pointer (some p) := by
        unfold loadK at h'
        split at h'
        · rename_i op hp
          obtain ⟨p, hop, _⟩ := bind_some h'
          have := hs.tmps ad
          rw [hp, hop] at this
          generalize a.tmps.getD ad undef = u at *
          cases this; exact ⟨_, rfl⟩
        · cases h'
      obtain ⟨p, hp⟩ := hp
      rw [hp] at hr'
      have hr2 : (loadVar ty' p).run P w = .ok v' w := by simpa [Instr.loadAt, Instr.sureAddr] using hr'
      have ha : (asAddr (a.tmps.getD ad undef)).run P w = .ok p w := by rw [hp]; rfl
      simp only [Sem.run_bind, Sem.run_pure, Result.andThen_ok, ha, hr2, hrun]

theorem ret_sound {gl : Gl} {n : Nat} {s : St} {a : Act} {fn : Func} {fin : AV → Heap → Option R} (hsz : fn.results.size = fn.resultTypes.size) (hs : StRep P w0 gl n ρ s a w) (h : retK P fn s fin = some r) :
    ∃ v v', fin v s.h = some r ∧ VR ρ v v' ∧ (results fn a.tmps).run P w = .ok v' w := by
  unfold retK at h
  obtain ⟨vs, vs', hK, hv, hrun⟩ := res_sound hs h
  have hm : (fn.results.toList.zip fn.resultTypes.toList).map (·.1) = fn.results.toList := by
    rw [List.map_fst_zip]
    simp [hsz]
  rw [hm] at hrun
  have hrun' : (fn.results.mapM fun x => (match x with
      | .tmp t => pure (a.tmps.getD t undef)
      | .cell a' t => do loadVar t (← asAddr (a.tmps.getD a' undef)) : Sem Value)).run P w = .ok vs'.toArray w := by
    rw [← Array.toArray_toList (xs := fn.results), List.mapM_toArray]
    simp only [Sem.run_map, hrun, Result.andThen_ok]
  refine ⟨one vs, (if h : vs'.toArray.size = 1 then vs'.toArray[0] else .tuple vs'.toArray), hK, ?_, ?_⟩
  · cases hv with
    | nil => exact .tuple .nil
    | cons a1 b1 =>
      cases b1 with
      | nil => exact a1
      | cons a2 b2 => exact .tuple (.cons a1 (.cons a2 b2))
  · unfold results
    rw [Sem.run_bind]
    exact (congrArg (fun q => Result.andThen q _) hrun').trans rfl

/-- The tables of functions. -/
abbrev FTab := FuncId → List AV → Heap → Option (AV × Heap)
noncomputable def FTab.oracle {R : Type} (F : FTab) : Oracle R := fun f args H K => (F f args H).bind fun p => K p.1 p.2

def callable (P : Program) (f : FuncId) : Bool :=
  match P.funcs[f]? with
  | some fn => !(fn.name == "runtime.NumGoroutine") && fn.body.isSome
  | none => false

def FSound (P : Program) (gl : Gl) (F : FTab) : Prop :=
  ∀ f args H v H', F f args H = some (v, H') → callable P f = true ∧
    ∀ (w0 : World) (ρ : Ren) (w : World) (args' : Array Value), Rep P w0 ρ H w → VRs ρ args args'.toList → GlobOK gl w0 ρ →
      Calls P f args' w fun e w' => ∃ ρ' v', e = .returned v' ∧ Ext ρ H ρ' H' ∧ Rep P w0 ρ' H' w' ∧ VR ρ' v v'

theorem FSound.oracle {gl : Gl} {F : FTab} (h : FSound P gl F) : CSound (R := R) P gl F.oracle := by
  intro f args H K r hr
  obtain ⟨⟨v, H'⟩, h1, h2⟩ := bind_some hr
  obtain ⟨hc, hs⟩ := h f args H v H' h1
  refine ⟨fun as w => ?_, fun w0 ρ w args' hrep hargs hgl => (hs w0 ρ w args' hrep hargs hgl).mono fun e w' ⟨ρ', v', a, b, c, d⟩ => ⟨ρ', v, v', H', a, b, c, d, h2⟩⟩
  unfold callable at hc
  split at hc
  · rename_i fn hfn
    simp only [Bool.and_eq_true, Bool.not_eq_true'] at hc
    have hb : fn.body.isNone = false := by
      cases e : fn.body with
      | none => rw [e] at hc; simp at hc
      | some _ => rfl
    unfold callFunc
    simp only [Sem.run_bind, run_program, Result.andThen_ok, hfn, hc.1, Bool.false_eq_true, if_false, hb]
    rfl
  · cases hc

theorem body_sound {gl : Gl} {C : Oracle R} {D : Drawer R} {N : Nat} {pl : Plan} {f : FuncId} {fn : Func} {args : List AV} {fin : AV → Heap → Option R} (hC : CSound P gl C) (hD : DSound P gl fn.ntmps D (subs (fn.body.getD .skip)))
    (hfn : P.funcs[f]? = some fn) (h : bodyF P gl C D N pl fn args H fin = some r) {args' : Array Value} (hrep : Rep P w0 ρ H w) (hargs : VRs ρ args args'.toList) (hgl : GlobOK gl w0 ρ) :
    Calls P f args' w fun e w' => ∃ ρ' v v' H', e = .returned v' ∧ Ext ρ H ρ' H' ∧ Rep P w0 ρ' H' w' ∧ VR ρ' v v' ∧ fin v H' = some r := by
  unfold bodyF at h
  split at h
  · rename_i c hc
    obtain ⟨h1, h⟩ := br_some h
    obtain ⟨h2, h⟩ := br_some h
    have hlen := ble_le h1
    have hsz := Nat.eq_of_beq_eq_true h2
    have hal : args.length = args'.size := by rw [hargs.length]; simp
    refine calls_of_wp hfn hc ?_
    have hs : StRep P w0 gl fn.ntmps ρ ⟨initT args 0, H⟩ { tmps := args' ++ Array.replicate (fn.ntmps - args'.size) undef, defers := [] } w := by
      refine ⟨hrep, fun t => ?_, by simp; omega, rfl, hgl⟩
      show VR ρ ((initT args 0).get .bad t) _
      rw [initT_get, if_neg (Nat.not_lt_zero _), Nat.sub_zero]
      cases e : args[t]? with
      | none => exact .bad _
      | some v =>
        obtain ⟨v', hv', hr⟩ := hargs.get e
        rw [Array.getElem?_toList] at hv'
        have hlt : t < args'.size := (Array.getElem?_eq_some_iff.1 hv').1
        rw [Array.getD_eq_getD_getElem?, Array.getElem?_append_left hlt, hv']
        exact hr
    have hfin : ∀ (Q : Exit) , (Q = .normal ∨ Q = .ret) → Goes P w0 gl fn.ntmps ρ H (fun s => retK P fn s fin) r (bodyPost P fn (fun e w' => ∃ ρ' v v' H', e = .returned v' ∧ Ext ρ H ρ' H' ∧ Rep P w0 ρ' H' w' ∧ VR ρ' v v' ∧ fin v H' = some r) Q) := by
      intro Q hQ ρ' s' a' w' hext hs' hK
      obtain ⟨v, v', hf, hv, hrun⟩ := ret_sound hsz hs' hK
      rcases hQ with rfl | rfl <;> exact ⟨hs'.defers, v', hrun, ρ', v, v', s'.h, rfl, hext, hs'.rep, hv, hf⟩
    exact evC_sound hC hD c (fun z hz => by rw [hc]; exact hz) ρ _ _ w _ _ _ (bodyPost P fn _) h hs (hfin .normal (.inl rfl)) (fun i ρ' s' a' w' _ _ hK => by cases hK) (hfin .ret (.inr rfl))
  · cases h

/-! ### All functions, by depth -/
/-- 'X': calls that are taken from elsewhere ('none': they are not). -/
noncomputable def tab (P : Program) (gl : Gl) (D : Nat → (n : Nat) → FTab → Drawer (AV × Heap)) (N : Nat) (pls : Nat → Plan) (X : FuncId → Option (List AV → Heap → Option (AV × Heap))) (d : Nat) : FTab :=
  Nat.rec (fun _ _ _ => none) (fun _ ih f args H => match X f with
    | some g => g args H
    | none => br (callable P f) (match P.funcs[f]? with
      | some fn => bodyF P gl (FTab.oracle ih) (D f fn.ntmps ih) N (pls f) fn args H fun v H => some (v, H)
      | none => none) none) d

theorem tab_sound {gl : Gl} {D : Nat → (n : Nat) → FTab → Drawer (AV × Heap)} {N : Nat} {pls : Nat → Plan} {X : FuncId → Option (List AV → Heap → Option (AV × Heap))}
    (hD : ∀ f n F L, FSound P gl F → DSound P gl n (D f n F) L) (hX : FSound P gl fun f args H => (X f).bind fun g => g args H) : ∀ d, FSound P gl (tab P gl D N pls X d)
  | 0 => fun f args H v H' h => by cases h
  | d + 1 => by
    intro f args H v H' h
    have h' : (match X f with
      | some g => g args H
      | none => br (callable P f) (match P.funcs[f]? with
        | some fn => bodyF P gl (FTab.oracle (tab P gl D N pls X d)) (D f fn.ntmps (tab P gl D N pls X d)) N (pls f) fn args H fun v H => some (v, H)
        | none => none) none) = some (v, H') := h
    cases hx : X f with
    | some g =>
      rw [hx] at h'
      exact hX f args H v H' (by show ((X f).bind fun g => g args H) = _; rw [hx]; exact h')
    | none =>
      rw [hx] at h'
      obtain ⟨hc, h2⟩ := br_some h'
      have ihF := tab_sound (N := N) (pls := pls) hD hX d
      have ih := ihF.oracle (R := AV × Heap)
      cases hfn : P.funcs[f]? with
      | none => rw [hfn] at h2; cases h2
      | some fn =>
        rw [hfn] at h2
        refine ⟨hc, fun w0 ρ w args' hrep hargs hgl => (body_sound ih (hD f fn.ntmps _ _ ihF) hfn h2 hrep hargs hgl).mono ?_⟩
        rintro e w' ⟨ρ', v1, v', H1, rfl, he, hr, hv, hf⟩
        cases hf
        exact ⟨ρ', v', rfl, he, hr, hv⟩
end
end Go.Ab
