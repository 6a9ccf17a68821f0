/- The abstract machine, 18: one operation, and operations in their order. -/
import Derived.Test.YtdhghfkempgejaaGreatDoorAbCopy
import Derived.Tactics
namespace Go.Ab
open Go.RowKit

/-- Calls, as far as they are known: what a function with these arguments and this heap goes on with. -/
abbrev Oracle (R : Type) := FuncId → List AV → Heap → (AV → Heap → Option R) → Option R

/-- The package-level variables that may be named, and what is known of the world ahead of all calls. -/
structure Gl where
  is : Nat → Bool
  W : World → Prop

section
variable {R : Type} {P : Program} {gl : Gl} {E : Operand → AV} {ty : TypeId} {K : AV → Heap → Option R} {r : R} {w0 : World} {ρ ρ' : Ren} {H H' : Heap} {w w' : World}

noncomputable def callK (P : Program) (C : Oracle R) (f : AV) (args : List AV) (ty : TypeId) (H : Heap) (K : AV → Heap → Option R) : Option R :=
  match f with
  | .fn (.func g) first cap => C g (first ++ args ++ cap) H fun v H' => castC P ty v fun v => K v H'
  | _ => none

def isMapTy (P : Program) (ts : List TypeId) : Bool :=
  match ts with
  | [t] => match P.underlying t with
    | some (.map _ _) => true
    | _ => false
  | _ => false

noncomputable def stepK (P : Program) (C : Oracle R) (op : Op) (ty : TypeId) (E : Operand → AV) (H : Heap) (K : AV → Heap → Option R) : Option R :=
  match op with
  | .move x => K (E x) H
  | .assign x => K (E x) H
  | .pick c a b => pickK (E c) (E a) (E b) fun v => K v H
  | .nilCheck x => nilK (E x) fun v => K v H
  | .binOp op t x y _ => binK P op t (E x) (E y) fun v => K v H
  | .unOp op _ x => unK op (E x) fun v => K v H
  | .convert src dst x => convK P dst src (E x) fun v => K v H
  | .makeInterface t x => mkIfaceK P t (E x) fun v => K v H
  | .makeFunc f a c => K (.fn f (a.toList.map E) (c.toList.map E)) H
  | .slice t x lo hi mx => sliceK P t (E x) (lo.map E) (hi.map E) (mx.map E) fun v => K v H
  | .fieldAddr s x i => fieldAddrK P s i (E x) fun v => K v H
  | .field s x i => fieldK P s i (E x) fun v => K v H
  | .indexAddr t x i => idxAddrK P t (E x) (E i) fun v => K v H
  | .index t x i => indexK P t (E x) (E i) fun v => K v H
  | .extract x i => extractK P ty (E x) i fun v => K v H
  | .build t parts => (buildL P t (parts.toList.map fun p => (p.1, E p.2))).bind fun l => K (.agg l) H
  | .load t x => loadK P H t (E x) fun v => K v H
  | .lookup t x k ok => lookupK P H t (E x) (E k) ok fun v => K v H
  | .alloc e => allocK P e H K
  | .box e x => boxK e (E x) H K
  | .buildSlice t n parts => buildSliceK P t n (parts.toList.map fun p => (p.1, E p.2)) H K
  | .makeMap _ x => makeMapK (x.map E) H K
  | .makeSlice t l c => makeSliceK P t (E l) (E c) H K
  | .store t x v => storeK P t (E x) (E v) H K
  | .mapUpdate t m k v => mapUpdateK P t (E m) (E k) (E v) H K
  | .insert t m k v => mapUpdateK P t (E m) (E k) (E v) H K
  | .range t x => rangeK P t (E x) H K
  | .next x str => br str (nextSK (E x) H K) none
  | .entry x => entryK (E x) H fun v => K v H
  | .call c => match c.callee with
    | .value f => callK P C (E f) (c.args.toList.map E) ty H K
    | .builtin b => match b with
      | .append => appendK P c.argTypes.toList (c.args.toList.map E) H K
      | .copy => copyK P c.argTypes.toList (c.args.toList.map E) H K
      | .clear => clearK P c.argTypes.toList (c.args.toList.map E) H K
      | .len => br (isMapTy P c.argTypes.toList) (match c.args.toList, c.argTypes.toList with
          | [x], [t] => lenMapK P H t (E x) fun v => K v H
          | _, _ => none) (quietK P .len c.argTypes.toList (c.args.toList.map E) fun v => K v H)
      | b => quietK P b c.argTypes.toList (c.args.toList.map E) fun v => K v H
    | _ => none
  | _ => none

/-- The package-level variables that are known lie where they lie; and what is known of the world at the start. -/
def GlobOK (gl : Gl) (w0 : World) (ρ : Ren) : Prop := gl.W w0 ∧ ∀ g, gl.is g = true → ∃ l, ρ g 0 = some l ∧ l.cb = g ∧ l.lo = 0 ∧ l.s = 0
theorem GlobOK.le {gl : Gl} (h : GlobOK gl w0 ρ) (k : ρ.le ρ') : GlobOK gl w0 ρ' := ⟨h.1, fun g hg => let ⟨l, a, b⟩ := h.2 g hg; ⟨l, k _ _ _ a, b⟩⟩

/-- Known calls are the model's. -/
def CSound (P : Program) (gl : Gl) (C : Oracle R) : Prop :=
  ∀ f args H K r, C f args H K = some r → (∀ as w, (callFunc f as).run P w = .ok (.enter f as) w) ∧
    ∀ (w0 : World) (ρ : Ren) (w : World) (args' : Array Value), Rep P w0 ρ H w → VRs ρ args args'.toList → GlobOK gl w0 ρ →
      Calls P f args' w fun e w' => ∃ ρ' v v' H', e = .returned v' ∧ Ext ρ H ρ' H' ∧ Rep P w0 ρ' H' w' ∧ VR ρ' v v' ∧ K v H' = some r

/-- The operation, carried out wherever the heap is represented, goes on as said. -/
def StepOK (P : Program) (gl : Gl) (H : Heap) (op : Op) (ty : TypeId) (E : Operand → AV) (Φ : AV → Heap → Prop) : Prop :=
  ∀ (w0 : World) (ρ : Ren) (a : Act) (w : World) (o : Oper) (next : Act → World → Prop) (Q : Exit → Act → World → Prop), Rep P w0 ρ H w → GlobOK gl w0 ρ → (∀ x, VR ρ (E x) (a.eval x)) → o.op = op → o.type = ty →
    (∀ ρ' v v' H' w', Ext ρ H ρ' H' → Rep P w0 ρ' H' w' → VR ρ' v v' → Φ v H' → next (a.put o.dst v') w') → o.wp P a w next Q

theorem StepOK.of_pure {op : Op} {v : AV} (h : PureOp P op ty E v) (hK : K v H = some r) : StepOK P gl H op ty E fun v H => K v H = some r := by
  intro w0 ρ a w o next Q hrep _ hE ho hty hn
  obtain ⟨v', hv, hr⟩ := h ρ a.eval w hE
  unfold Oper.wp
  rw [hr o ho hty]
  exact hn ρ v v' H w (Ext.refl _ _) hrep hv hK
theorem StepOK.of_read {op : Op} {v : AV} (h : ReadOp P H op ty E v) (hK : K v H = some r) : StepOK P gl H op ty E fun v H => K v H = some r := by
  intro w0 ρ a w o next Q hrep _ hE ho hty hn
  obtain ⟨v', hv, hr⟩ := h w0 ρ a.eval w hrep hE
  unfold Oper.wp
  rw [hr o ho hty]
  exact hn ρ v v' H w (Ext.refl _ _) hrep hv hK
theorem StepOK.of_eff {op : Op} {v : AV} (h : EffOp P H op ty E v H') (hK : K v H' = some r) : StepOK P gl H op ty E fun v H => K v H = some r := by
  intro w0 ρ a w o next Q hrep _ hE ho hty hn
  obtain ⟨ρ', v', w', he, hr, hv, hrun⟩ := h w0 ρ a.eval w hrep hE
  unfold Oper.wp
  rcases hrun o ho hty with hrun | ⟨hrun, e⟩
  · rw [hrun]; exact hn ρ' v v' H' w' he hr hv hK
  · rw [hrun]; subst e; exact hn ρ' v undef H' w' he hr hv hK

theorem call_sound {C : Oracle R} (hC : CSound P gl C) {f : Operand} {args : Array Operand} {ts : Array TypeId} (h : callK P C (E f) (args.toList.map E) ty H K = some r) :
    StepOK P gl H (.call { callee := .value f, args := args, argTypes := ts }) ty E fun v H => K v H = some r := by
  unfold callK at h
  split at h
  · rename_i g first cap hf
    intro w0 ρ a w o next Q hrep hgl hE ho hty hn
    have hfv := hE f; rw [hf] at hfv
    obtain ⟨henter, hcalls⟩ := hC _ _ _ _ _ h
    generalize hv : a.eval f = fv at *
    cases hfv with
    | fn h1 h2 =>
      rename_i first' cap'
      have hargs : VRs ρ (first ++ args.toList.map E ++ cap) ((first' ++ args.map a.eval) ++ cap').toList := by
        simp only [Array.toList_append, Array.toList_map]
        exact ((h1.append (args_rep hE _)).append h2)
      have hc := hcalls w0 ρ w _ hrep hargs hgl
      unfold Oper.wp
      have hrun : (execOp a.eval o).run P w = .ok (.enter g ((first' ++ args.map a.eval) ++ cap')) w := by
        simp only [execOp, ho, resolve, hv, Deferred.ofValue, Sem.run_bind, Sem.run_pure, Result.andThen_ok, invoke]
        exact henter _ _
      rw [hrun]
      refine hc.mono fun e w' he => ?_
      obtain ⟨ρ', v, v', H', rfl, he, hr, hvr, hK⟩ := he
      exact hn ρ' v v' H' w' he hr hvr (castC_some (K := fun v => K v H') hK)
  · cases h

theorem step_sound {C : Oracle R} (hC : CSound P gl C) {op : Op} (h : stepK P C op ty E H K = some r) : StepOK P gl H op ty E fun v H => K v H = some r := by
  unfold stepK at h
  split at h
  · obtain ⟨v, hK, hs⟩ := move_sound (P := P) (ty := ty) (K := fun v => K v H) h; exact .of_pure hs hK
  · obtain ⟨v, hK, hs⟩ := assign_sound (P := P) (ty := ty) (K := fun v => K v H) h; exact .of_pure hs hK
  · obtain ⟨v, hK, hs⟩ := pick_sound (P := P) (ty := ty) h; exact .of_pure hs hK
  · obtain ⟨v, hK, hs⟩ := nil_sound (P := P) (ty := ty) h; exact .of_pure hs hK
  · obtain ⟨v, hK, hs⟩ := bin_op_sound (ty := ty) h; exact .of_pure hs hK
  · rename_i op' t x
    obtain ⟨v, hK, hs⟩ := un_sound (P := P) (ty := ty) (t := t) h; exact .of_pure hs hK
  · obtain ⟨v, hK, hs⟩ := conv_sound (ty := ty) h; exact .of_pure hs hK
  · obtain ⟨v, hK, hs⟩ := mkIface_sound (ty := ty) h; exact .of_pure hs hK
  · obtain ⟨v, hK, hs⟩ := mkFunc_sound (P := P) (ty := ty) (K := fun v => K v H) h; exact .of_pure hs hK
  · obtain ⟨v, hK, hs⟩ := slice_sound (ty := ty) h; exact .of_pure hs hK
  · obtain ⟨v, hK, hs⟩ := fieldAddr_sound (ty := ty) h; exact .of_pure hs hK
  · obtain ⟨v, hK, hs⟩ := field_sound (ty := ty) h; exact .of_pure hs hK
  · obtain ⟨v, hK, hs⟩ := idxAddr_sound (ty := ty) h; exact .of_pure hs hK
  · obtain ⟨v, hK, hs⟩ := index_sound (ty := ty) h; exact .of_pure hs hK
  · obtain ⟨v, hK, hs⟩ := extract_sound (P := P) (ty := ty) h; exact .of_pure hs hK
  · obtain ⟨v, hK, hs⟩ := buildOp_sound (ty := ty) (K := fun v => K v H) h; exact .of_pure hs hK
  · obtain ⟨v, hK, hs⟩ := load_sound (ty := ty) h; exact .of_read hs hK
  · obtain ⟨v, hK, hs⟩ := lookup_sound (ty := ty) h; exact .of_read hs hK
  · obtain ⟨v, H', hK, hs⟩ := alloc_sound (ty := ty) (E := E) h; exact .of_eff hs hK
  · obtain ⟨v, H', hK, hs⟩ := box_sound (P := P) (ty := ty) h; exact .of_eff hs hK
  · obtain ⟨v, H', hK, hs⟩ := buildSlice_sound (ty := ty) h; exact .of_eff hs hK
  · rename_i t x
    obtain ⟨v, H', hK, hs⟩ := makeMap_sound (P := P) (ty := ty) (t := t) h; exact .of_eff hs hK
  · obtain ⟨v, H', hK, hs⟩ := makeSlice_sound (ty := ty) h; exact .of_eff hs hK
  · obtain ⟨v, H', hK, hs⟩ := store_sound (ty := ty) h; exact .of_eff hs hK
  · obtain ⟨v, H', hK, hs⟩ := mapUpdate_sound (ty := ty) h; exact .of_eff hs hK
  · obtain ⟨v, H', hK, hs⟩ := insert_sound (ty := ty) h; exact .of_eff hs hK
  · obtain ⟨v, H', hK, hs⟩ := range_sound (ty := ty) h; exact .of_eff hs hK
  · rename_i x str
    obtain ⟨hstr, h⟩ := br_some h
    subst hstr
    obtain ⟨v, H', hK, hs⟩ := next_sound (ty := ty) h; exact .of_eff hs hK
  · obtain ⟨v, hK, hs⟩ := entry_sound (ty := ty) (K := fun v => K v H) h; exact .of_read hs hK
  · rename_i c
    obtain ⟨callee, args, ts⟩ := c
    simp only at h
    split at h
    · exact call_sound hC h
    · rename_i b
      split at h
      · obtain ⟨v, H', hK, hs⟩ := append_sound (ty := ty) h; exact .of_eff hs hK
      · obtain ⟨v, H', hK, hs⟩ := copy_sound (ty := ty) h; exact .of_eff hs hK
      · obtain ⟨v, H', hK, hs⟩ := clear_sound (ty := ty) h; exact .of_eff hs hK
      · cases hm : isMapTy P ts.toList with
        | true =>
          rw [hm, br_true] at h
          split at h
          · rename_i x t hx ht
            obtain ⟨args⟩ := args
            obtain ⟨ts⟩ := ts
            simp only at hx ht
            subst hx; subst ht
            obtain ⟨v, hK, hs⟩ := lenMap_sound (ty := ty) h; exact .of_read hs hK
          · cases h
        | false =>
          rw [hm, br_false] at h
          obtain ⟨v, hK, hs⟩ := quiet_sound (ty := ty) h; exact .of_pure hs hK
      · obtain ⟨v, hK, hs⟩ := quiet_sound (ty := ty) h; exact .of_pure hs hK
    · cases h
  · cases h

/-! ### States -/
noncomputable def ev (gl : Gl) (t : T AV) : Operand → AV
  | .tmp i => t.get .bad i
  | .const v => toAV v
  | .global g => br (gl.is g) (.ptr (some ⟨g, 0, 0⟩)) .bad
  | .func f => .fn (.func f) [] []

structure StRep (P : Program) (w0 : World) (gl : Gl) (n : Nat) (ρ : Ren) (s : St) (a : Act) (w : World) : Prop where
  rep : Rep P w0 ρ s.h w
  tmps : ∀ t, VR ρ (s.t.get .bad t) (a.tmps.getD t undef)
  size : a.tmps.size = n
  defers : a.defers = []
  glob : GlobOK gl w0 ρ

theorem StRep.ev {gl : Gl} {n : Nat} {s : St} {a : Act} (h : StRep P w0 gl n ρ s a w) (x : Operand) : VR ρ (Ab.ev gl s.t x) (a.eval x) := by
  cases x with
  | tmp t => exact h.tmps t
  | const v => exact toAV_VR ρ v
  | global g =>
    show VR ρ (br (gl.is g) (.ptr (some ⟨g, 0, 0⟩)) .bad) (.pointer (some ⟨g, 0, none⟩))
    cases hg : gl.is g with
    | false => exact .bad _
    | true =>
      obtain ⟨l, h1, h2, h3, h4⟩ := h.glob.2 g hg
      have := VR.ptr (ρ := ρ) (a := ⟨g, 0, 0⟩) (l := l) h1 (by rw [h3]; exact Nat.le_refl _)
      have e : l.at 0 = ⟨g, 0, none⟩ := by unfold Loc.at; rw [h2, h3, h4]
      simp only at this
      rw [e] at this
      exact this
  | func f => exact .fn .nil .nil

noncomputable def putK (n : Nat) (s : St) (d : Option Tmp) (v : AV) (H : Heap) (K : St → Option R) : Option R :=
  match d with
  | none => K ⟨s.t, H⟩
  | some t => br (Nat.blt t n) (K ⟨s.t.set .bad t v, H⟩) none

theorem put_sound {gl : Gl} {n : Nat} {s : St} {a : Act} {d : Option Tmp} {v : AV} {v' : Value} {K : St → Option R} (h : putK n s d v H' K = some r) (hs : StRep P w0 gl n ρ s a w) (he : Ext ρ s.h ρ' H') (hr : Rep P w0 ρ' H' w') (hv : VR ρ' v v') :
    ∃ s', K s' = some r ∧ StRep P w0 gl n ρ' s' (a.put d v') w' ∧ s'.h = H' := by
  unfold putK at h
  have hgl := hs.glob.le he.le
  cases d with
  | none => exact ⟨_, h, ⟨hr, fun t => (hs.tmps t).mono he.le, hs.size, hs.defers, hgl⟩, rfl⟩
  | some t =>
    obtain ⟨hlt, h⟩ := br_some h
    have hlt' := blt_lt hlt
    refine ⟨_, h, ⟨hr, fun j => ?_, ?_, hs.defers, hgl⟩, rfl⟩
    · show VR ρ' ((s.t.set .bad t v).get .bad j) ((a.tmps.setIfInBounds t v').getD j undef)
      rw [T.get_set]
      by_cases e : j = t
      · subst e
        rw [if_pos rfl, Array.getD_eq_getD_getElem?, Array.getElem?_setIfInBounds_self_of_lt (by rw [hs.size]; exact hlt')]
        exact hv
      · rw [if_neg e, Array.getD_eq_getD_getElem?, Array.getElem?_setIfInBounds_ne (fun q => e q.symm), ← Array.getD_eq_getD_getElem?]
        exact (hs.tmps j).mono he.le
    · show (a.tmps.setIfInBounds t v').size = n
      simp [hs.size]

/-- Whether an operation's guard lets it by; the guard is a known Bool in what follows. -/
noncomputable def guardK (all : Array Oper) (o : Oper) (s : St) (yes no : St → Option R) : Option R :=
  match o.guard with
  | none => yes s
  | some (j, want) => match (all[j]?).bind (·.dst) with
    | none => no s
    | some d => match s.t.get .bad d with
      | .bool b => br b (br want yes no ⟨s.t.set .bad d (.bool true), s.h⟩) (br want no yes ⟨s.t.set .bad d (.bool false), s.h⟩)
      | .tuple [] => no s
      | _ => none

theorem setSame {gl : Gl} {n : Nat} {s : St} {a : Act} {d : Nat} {v : AV} (hs : StRep P w0 gl n ρ s a w) (hv : s.t.get .bad d = v) : StRep P w0 gl n ρ ⟨s.t.set .bad d v, s.h⟩ a w :=
  ⟨hs.rep, fun t => by
    show VR ρ ((s.t.set .bad d v).get .bad t) _
    rw [T.get_set]
    by_cases e : t = d
    · subst e; rw [if_pos rfl, ← hv]; exact hs.tmps _
    · rw [if_neg e]; exact hs.tmps t, hs.size, hs.defers, hs.glob⟩

theorem guard_sound {gl : Gl} {n : Nat} {s : St} {a : Act} {all : Array Oper} {o : Oper} {yes no : St → Option R} (h : guardK all o s yes no = some r) (hs : StRep P w0 gl n ρ s a w) :
    ∃ s', StRep P w0 gl n ρ s' a w ∧ s'.h = s.h ∧ ((Region.wanted o (yielded all a.tmps) = true ∧ yes s' = some r) ∨ (Region.wanted o (yielded all a.tmps) = false ∧ no s' = some r)) := by
  unfold guardK at h
  unfold Region.wanted
  split at h
  · rename_i hg
    exact ⟨s, hs, rfl, .inl ⟨by rw [hg], h⟩⟩
  · rename_i j want hg
    rw [hg]
    simp only
    split at h
    · rename_i hd
      exact ⟨s, hs, rfl, .inr ⟨by unfold yielded; rw [hd]; rfl, h⟩⟩
    · rename_i d hd
      have hy : ∀ v, a.tmps.getD d undef = v → yielded all a.tmps j = (match v with | .bool b => some b | _ => none) := by
        intro v hv
        unfold yielded
        rw [hd]
        simp only [Option.bind_some]
        rw [Array.getD_eq_getD_getElem?] at hv
        cases e : a.tmps[d]? with
        | none => rw [e] at hv; simp only [Option.getD_none] at hv; rw [← hv]; rfl
        | some u => rw [e] at hv; simp only [Option.getD_some] at hv; subst hv; cases u <;> rfl
      have hvr := hs.tmps d
      split at h
      · rename_i b hb
        rw [hb] at hvr
        generalize hv : a.tmps.getD d undef = dv at *
        cases hvr
        rw [hy _ rfl]
        cases b with
        | true =>
          cases want with
          | true => exact ⟨_, setSame hs hb, rfl, .inl ⟨rfl, h⟩⟩
          | false => exact ⟨_, setSame hs hb, rfl, .inr ⟨rfl, h⟩⟩
        | false =>
          cases want with
          | true => exact ⟨_, setSame hs hb, rfl, .inr ⟨rfl, h⟩⟩
          | false => exact ⟨_, setSame hs hb, rfl, .inl ⟨rfl, h⟩⟩
      · rename_i hb
        rw [hb] at hvr
        generalize hv : a.tmps.getD d undef = dv at *
        cases hvr with
        | tuple hc =>
          rw [hy _ rfl]
          exact ⟨s, hs, rfl, .inr ⟨by cases want <;> rfl, h⟩⟩
      · cases h

/-- Operations in the order of the text. -/
noncomputable def opsK (P : Program) (gl : Gl) (n : Nat) (C : Oracle R) (all : Array Oper) (l : List Oper) : St → (St → Option R) → Option R :=
  List.rec (fun s K => K s)
    (fun o _ ih s K => guardK all o s (fun s => stepK P C o.op o.type (ev gl s.t) s.h fun v H => putK n s o.dst v H fun s => ih s K) (fun s => putK n s o.dst (.tuple []) s.h fun s => ih s K)) l

theorem ops_sound {n : Nat} {C : Oracle R} (hC : CSound P gl C) {all : Array Oper} {Q : Exit → Act → World → Prop} {K : St → Option R} : ∀ (l : List Oper) (ρ : Ren) (s : St) (a : Act) (w : World), opsK P gl n C all l s K = some r → StRep P w0 gl n ρ s a w →
    (∀ ρ' s' a' w', Ext ρ s.h ρ' s'.h → StRep P w0 gl n ρ' s' a' w' → K s' = some r → Q .normal a' w') → wpList P all Q l a w
  | [], ρ, s, a, w, h, hs, hQ => hQ ρ s a w (Ext.refl _ _) hs h
  | o :: l, ρ, s, a, w, h, hs, hQ => by
    have h' : guardK all o s (fun s => stepK P C o.op o.type (ev gl s.t) s.h fun v H => putK n s o.dst v H fun s => opsK P gl n C all l s K) (fun s => putK n s o.dst (.tuple []) s.h fun s => opsK P gl n C all l s K) = some r := h
    obtain ⟨s1, hs1, e1, hcase⟩ := guard_sound h' hs
    unfold wpList
    rcases hcase with ⟨hw, h1⟩ | ⟨hw, h1⟩
    · rw [hw, if_pos rfl]
      refine .inl (step_sound hC h1 w0 ρ a w o _ Q hs1.rep hs1.glob hs1.ev rfl rfl ?_)
      intro ρ' v v' H' w' he hr hv hput
      obtain ⟨s2, h2, hs2, e2⟩ := put_sound hput hs1 he hr hv
      refine ops_sound hC l ρ' s2 _ w' h2 hs2 fun ρ'' s' a' w'' he' hs' hK => hQ ρ'' s' a' w'' ?_ hs' hK
      rw [← e1]
      rw [e2] at he'
      exact he.trans he'
    · rw [hw, if_neg (by simp)]
      obtain ⟨s2, h2, hs2, e2⟩ := put_sound h1 hs1 (Ext.refl _ _) hs1.rep (show VR ρ (.tuple []) undef from .tuple .nil)
      refine ops_sound hC l ρ s2 _ w h2 hs2 fun ρ'' s' a' w'' he' hs' hK => hQ ρ'' s' a' w'' ?_ hs' hK
      rw [← e1, ← e2]
      exact he'
end
end Go.Ab
