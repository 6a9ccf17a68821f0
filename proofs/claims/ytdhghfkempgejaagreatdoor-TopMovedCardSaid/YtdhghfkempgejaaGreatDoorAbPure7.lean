/- The abstract machine, 10: the step of any operation that looks at no memory. -/
import Derived.Test.YtdhghfkempgejaaGreatDoorAbPure6
namespace Go.Ab
section
variable {R : Type} {P : Program} {E : Operand → AV} {ty : TypeId} {K : AV → Option R} {r : R}

theorem optRep_map {x : Option Operand} {ρ : Ren} {e : Operand → Value} (hE : ∀ x, VR ρ (E x) (e x)) : OptRep ρ (x.map E) (x.map e) := by
  cases x with
  | none => trivial
  | some o => exact hE o

theorem slice_sound {t : TypeId} {x : Operand} {lo hi mx : Option Operand} (h : sliceK P t (E x) (lo.map E) (hi.map E) (mx.map E) K = some r) :
    ∃ v, K v = some r ∧ PureOp P (.slice t x lo hi mx) ty E v := by
  unfold sliceK at h
  split at h
  · rename_i lo1 hlo1
    split at h
    · rename_i hi1 hhi1
      split at h
      · rename_i mx1 hmx1
        split at h
        · rename_i el hu
          split at h
          · rename_i z hz
            obtain ⟨inf, hinf, hcz⟩ := elemSz_some hz
            split at h
            · rename_i s hs
              split at h
              · cases h
              · rename_i hno
                obtain ⟨s', hs', hK⟩ := bind_some h
                refine ⟨_, hK, fun ρ e w hE => ?_⟩
                have hx := hE x; rw [hs] at hx
                have r1 := intOf_rep hlo1 (optRep_map (x := lo) hE)
                have r2 := intOf_rep hhi1 (optRep_map (x := hi) hE)
                have r3 := intOf_rep hmx1 (optRep_map (x := mx) hE)
                unfold sliceSl at hs'
                obtain ⟨l, bl, hs'⟩ := bind_some hs'
                obtain ⟨hh, bh, hs'⟩ := bind_some hs'
                obtain ⟨a, c, hv, hlh, m, bm, hhm, hmc, hvr⟩ := cut_sound hs' ρ (e x) hx
                have hb := run_bounds (P := P) w r1 r2 r3 bl bh bm hlh hhm hmc (fun hq => by
                  obtain ⟨q1, q2⟩ := hq
                  cases mx1 with
                  | none => exact q2 rfl
                  | some i => exact hno i q1 rfl) true
                refine ⟨_, hvr, fun o ho _ => ?_⟩
                simp [execOp, ho, Instr.sliceAt, run_underlying hu, Instr.slice, hv, hb, run_sizeOf w hinf, hcz]
            · cases h
          · cases h
        · rename_i hu
          split at h
          · rename_i s hs
            split at h
            · obtain ⟨s', hs', hK⟩ := bind_some h
              refine ⟨_, hK, fun ρ e w hE => ?_⟩
              have hx := hE x; rw [hs] at hx
              have r1 := intOf_rep hlo1 (optRep_map (x := lo) hE)
              have r2 := intOf_rep hhi1 (optRep_map (x := hi) hE)
              have r3 := intOf_rep hmx1 (optRep_map (x := mx) hE)
              unfold sliceStr at hs'
              obtain ⟨l, bl, hs'⟩ := bind_some hs'
              obtain ⟨hh, bh, hs'⟩ := bind_some hs'
              obtain ⟨h1, hs'⟩ := br_some hs'
              obtain ⟨h2, hs'⟩ := br_some hs'
              cases hs'
              have hmx : mx.map e = none := by
                rcases r3 with ⟨_, q⟩ | ⟨k, n, q, _⟩
                · exact q
                · cases q
              have hb := run_bounds (P := P) (cap := s.size) w r1 r2 (.inl ⟨rfl, rfl⟩) bl bh rfl (ble_le h1) (ble_le h2) (Nat.le_refl _) (fun hq => hq.2 rfl) false
              generalize hv : e x = xv at *
              cases hx
              refine ⟨_, .str _, fun o ho _ => ?_⟩
              simp [execOp, ho, Instr.sliceAt, run_underlying hu, Instr.slice, hv, hb, hmx]
            · cases h
          · cases h
        · rename_i n el hu
          split at h
          · rename_i z hz
            obtain ⟨inf, hinf, hcz⟩ := elemSz_some hz
            split at h
            · rename_i oa hs
              split at h
              · obtain ⟨a, hoa, h⟩ := bind_some h
                obtain ⟨s', hs', hK⟩ := bind_some h
                refine ⟨_, hK, fun ρ e w hE => ?_⟩
                have hx := hE x; rw [hs, hoa] at hx
                have r1 := intOf_rep hlo1 (optRep_map (x := lo) hE)
                have r2 := intOf_rep hhi1 (optRep_map (x := hi) hE)
                have r3 := intOf_rep hmx1 (optRep_map (x := mx) hE)
                generalize hxv : e x = xv at *
                cases hx with
                | ptr hl hlo' =>
                  rename_i lc
                  have hx2 : VR ρ (.sl ⟨some a, n, .known n⟩) (.slice (some (lc.at a.o)) n n) := VR.sl n n hl hlo'
                  unfold sliceSl at hs'
                  obtain ⟨l, bl, hs'⟩ := bind_some hs'
                  obtain ⟨hh, bh, hs'⟩ := bind_some hs'
                  obtain ⟨a', c, hv, hlh, m, bm, hhm, hmc, hvr⟩ := cut_sound hs' ρ _ hx2
                  cases hv
                  have hb := run_bounds (P := P) w r1 r2 r3 bl bh bm hlh hhm hmc (fun hq => hq.2 rfl) false
                  refine ⟨_, hvr, fun o ho _ => ?_⟩
                  simp [execOp, ho, Instr.sliceAt, run_underlying hu, hxv, Instr.sureAddr, hb, run_sizeOf w hinf, hcz]
                  by_cases hml : m = l <;> simp [hml]
              · cases h
            · cases h
          · cases h
        · cases h
      · cases h
    · cases h
  · cases h

noncomputable def mkIfaceK (P : Program) (t : TypeId) (x : AV) (K : AV → Option R) : Option R :=
  match P.underlying t with
  | some (.interface _) => none
  | some _ => K (.iface t x)
  | none => none
theorem mkIface_sound {t : TypeId} {x : Operand} (h : mkIfaceK P t (E x) K = some r) : ∃ v, K v = some r ∧ PureOp P (.makeInterface t x) ty E v := by
  unfold mkIfaceK at h
  split at h
  · cases h
  · rename_i d hd hu
    refine ⟨_, h, fun ρ e w hE => ⟨_, .iface (hE x), fun o ho _ => ?_⟩⟩
    have : (Instr.makeInterface t (e x)).run P w = .ok (.iface t (e x)) w := by
      unfold Instr.makeInterface
      simp only [Sem.run_bind, run_underlying hu, Result.andThen_ok]
      first
        | rfl
        | (split
           · exact absurd rfl (hd _)
           · rfl)
    simp [execOp, ho, this]
  · cases h

theorem mkFunc_sound {f : Fn} {a c : Array Operand} (h : K (.fn f (a.toList.map E) (c.toList.map E)) = some r) : ∃ v, K v = some r ∧ PureOp P (.makeFunc f a c) ty E v := by
  have key : ∀ {ρ : Ren} {e : Operand → Value}, (∀ x, VR ρ (E x) (e x)) → ∀ l : List Operand, VRs ρ (l.map E) (l.map e) := by
    intro ρ e hE l
    induction l with
    | nil => exact .nil
    | cons x l ih => exact .cons (hE x) ih
  refine ⟨_, h, fun ρ e w hE => ⟨.func f (a.map e) (c.map e), .fn ?_ ?_, fun o ho _ => by simp [execOp, ho, Instr.makeFunc]⟩⟩
  · rw [Array.toList_map]; exact key hE _
  · rw [Array.toList_map]; exact key hE _

theorem buildOp_sound {t : TypeId} {parts : Array (Nat × Operand)} (h : ((buildL P t (parts.toList.map fun p => (p.1, E p.2))).bind fun l => K (.agg l)) = some r) :
    ∃ v, K v = some r ∧ PureOp P (.build t parts) ty E v := by
  obtain ⟨l, hl, hK⟩ := bind_some h
  refine ⟨_, hK, fun ρ e w hE => ?_⟩
  have key : ∀ q : List (Nat × Operand), PartsRep ρ (q.map fun p => (p.1, E p.2)) (q.map fun p => (p.1, e p.2)) := by
    intro q
    induction q with
    | nil => exact .nil
    | cons x l ih => exact .cons (hE x.2) ih
  obtain ⟨v', hv', hr⟩ := build_sound hl ρ (parts.map fun p => (p.1, e p.2)) w (by rw [Array.toList_map]; exact key _)
  exact ⟨v', hv', fun o ho _ => by simp [execOp, ho, hr]⟩

/-! The quiet builtins -/
noncomputable def lenK (P : Program) (t : TypeId) (x : AV) (K : AV → Option R) : Option R :=
  match P.underlying t with
  | some (.slice _) => match x with
    | .sl s => K (.int .i64 (Int.ofNat s.n))
    | _ => none
  | some .string => match x with
    | .str s => K (.int .i64 (Int.ofNat s.size))
    | _ => none
  | some (.array n _) => K (.int .i64 (Int.ofNat n))
  | _ => none
noncomputable def capK (P : Program) (t : TypeId) (x : AV) (K : AV → Option R) : Option R :=
  match P.underlying t with
  | some (.slice _) => match x with
    | .sl ⟨_, _, .known c⟩ => K (.int .i64 (Int.ofNat c))
    | _ => none
  | _ => none
noncomputable def mmK (mx : Bool) (x y : AV) (K : AV → Option R) : Option R :=
  match x with
  | .int k a => match y with
    | .int _ b => bindI (br mx (br (ltI a b) b a) (br (ltI b a) b a)) fun n => K (.int k n)
    | _ => none
  | _ => none
noncomputable def mmsK (mx : Bool) (x : AV) (l : List AV) (K : AV → Option R) : Option R :=
  match l with
  | [] => K x
  | y :: l => mmK mx x y fun v => mmsK mx v l K
noncomputable def quietK (P : Program) (b : Builtin) (ts : List TypeId) (args : List AV) (K : AV → Option R) : Option R :=
  match b with
  | .len => match ts with
    | [t] => match args with
      | [x] => lenK P t x K
      | _ => none
    | _ => none
  | .cap => match ts with
    | [t] => match args with
      | [x] => capK P t x K
      | _ => none
    | _ => none
  | .min => match args with
    | x :: l => mmsK false x l K
    | [] => none
  | .max => match args with
    | x :: l => mmsK true x l K
    | [] => none
  | _ => none

theorem mm_inv {mx : Bool} {x y : AV} (h : mmK mx x y K = some r) : ∃ v, K v = some r ∧ ∀ (ρ : Ren) (x' y' : Value) (w : World), VR ρ x x' → VR ρ y y' →
    ∃ v', VR ρ v v' ∧ ((if mx then Builtin.max2 else Builtin.min2) x' y').run P w = .ok v' w := by
  unfold mmK at h
  simp only [bindI_eq] at h
  split at h
  · rename_i k a
    split at h
    · rename_i k' b
      refine ⟨_, h, fun ρ x' y' w hx hy => ?_⟩
      cases hx; cases hy
      cases mx with
      | true =>
        refine ⟨_, .int _ _, ?_⟩
        show (Builtin.max2 (.int k a) (.int k' b)).run P w = .ok (.int k (br (ltI a b) b a)) w
        rw [ltI_eq, br_decide]; rfl
      | false =>
        refine ⟨_, .int _ _, ?_⟩
        show (Builtin.min2 (.int k a) (.int k' b)).run P w = .ok (.int k (br (ltI b a) b a)) w
        rw [ltI_eq, br_decide]; rfl
    · cases h
  · cases h
theorem mms_inv {mx : Bool} : ∀ {l : List AV} {x : AV}, mmsK mx x l K = some r → ∃ v, K v = some r ∧ ∀ (ρ : Ren) (x' : Value) (l' : List Value) (w : World), VR ρ x x' → VRs ρ l l' →
    ∃ v', VR ρ v v' ∧ (l'.foldlM (if mx then Builtin.max2 else Builtin.min2) x').run P w = .ok v' w
  | [], x, h => ⟨x, h, fun ρ x' l' w hx hl => by cases hl; exact ⟨x', hx, rfl⟩⟩
  | y :: l, x, h => by
    obtain ⟨u, hu, hs⟩ := mm_inv (P := P) h
    obtain ⟨v, hv, ht⟩ := mms_inv (l := l) hu
    refine ⟨v, hv, fun ρ x' l' w hx hl => ?_⟩
    cases hl with
    | cons hy hl =>
      obtain ⟨u', hu', hr⟩ := hs ρ x' _ w hx hy
      obtain ⟨v', hv', hr'⟩ := ht ρ u' _ w hu' hl
      refine ⟨v', hv', ?_⟩
      rw [List.foldlM_cons]
      simp only [Sem.run_bind, hr, Result.andThen_ok, hr']

theorem args_rep {ρ : Ren} {e : Operand → Value} (hE : ∀ x, VR ρ (E x) (e x)) : ∀ l : List Operand, VRs ρ (l.map E) (l.map e)
  | [] => .nil
  | x :: l => .cons (hE x) (args_rep hE l)

theorem quiet_sound {b : Builtin} {args : Array Operand} {ts : Array TypeId} (h : quietK P b ts.toList (args.toList.map E) K = some r) :
    ∃ v, K v = some r ∧ PureOp P (.call { callee := .builtin b, args := args, argTypes := ts }) ty E v := by
  have fin : ∀ {v : AV}, (∀ (ρ : Ren) (a' : Array Value) (w : World), VRs ρ (args.toList.map E) a'.toList → ∃ v', VR ρ v v' ∧ ∀ (ty : TypeId) (cs : Array Bool), (builtin b ts ty cs a').run P w = .ok (.value v') w) →
      PureOp P (.call { callee := .builtin b, args := args, argTypes := ts }) ty E v := by
    intro v hb ρ e w hE
    obtain ⟨v', hv', hr⟩ := hb ρ (args.map e) w (by rw [Array.toList_map]; exact args_rep hE _)
    refine ⟨v', hv', fun o ho _ => ?_⟩
    simp only [execOp, ho, resolve, Sem.run_bind, Sem.run_pure, Result.andThen_ok, invoke]
    exact hr _ _
  unfold quietK at h
  split at h
  · split at h
    · rename_i t ht
      split at h
      · rename_i x hx
        unfold lenK at h
        split at h
        · rename_i el hu
          split at h
          · rename_i s
            refine ⟨_, h, fin fun ρ a' w hr => ?_⟩
            rw [hx] at hr
            obtain ⟨a'⟩ := a'
            cases hr with
            | cons hx1 hl =>
              cases hl
              obtain ⟨ts⟩ := ts
              simp only at ht
              subst ht
              cases hx1 <;> exact ⟨_, .int _ _, fun ty cs => by simp [builtin, Builtin.len_, run_underlying hu, goInt]⟩
          · cases h
        · rename_i hu
          split at h
          · rename_i s
            refine ⟨_, h, fin fun ρ a' w hr => ?_⟩
            rw [hx] at hr
            obtain ⟨a'⟩ := a'
            cases hr with
            | cons hx1 hl =>
              cases hl
              obtain ⟨ts⟩ := ts
              simp only at ht
              subst ht
              cases hx1; exact ⟨_, .int _ _, fun ty cs => by simp [builtin, Builtin.len_, run_underlying hu, goInt]⟩
          · cases h
        · rename_i n el hu
          refine ⟨_, h, fin fun ρ a' w hr => ?_⟩
          rw [hx] at hr
          obtain ⟨a'⟩ := a'
          cases hr with
          | cons hx1 hl =>
            cases hl
            obtain ⟨ts⟩ := ts
            simp only at ht
            subst ht
            exact ⟨_, .int _ _, fun ty cs => by simp [builtin, Builtin.len_, run_underlying hu, goInt]⟩
        · cases h
      · cases h
    · cases h
  · split at h
    · rename_i t ht
      split at h
      · rename_i x hx
        unfold capK at h
        split at h
        · rename_i el hu
          split at h
          · rename_i s
            refine ⟨_, h, fin fun ρ a' w hr => ?_⟩
            rw [hx] at hr
            obtain ⟨a'⟩ := a'
            cases hr with
            | cons hx1 hl =>
              cases hl
              obtain ⟨ts⟩ := ts
              simp only at ht
              subst ht
              cases hx1 with
              | nilSl => exact ⟨_, .int _ _, fun ty cs => by simp [builtin, Builtin.cap_, run_underlying hu, goInt]⟩
              | sl => exact ⟨_, .int _ _, fun ty cs => by simp [builtin, Builtin.cap_, run_underlying hu, goInt]⟩
              | slE x c _ _ hc =>
                have : s = 0 := hc
                subst this
                exact ⟨_, .int _ _, fun ty cs => by simp [builtin, Builtin.cap_, run_underlying hu, goInt]⟩
          · cases h
        · cases h
      · cases h
    · cases h
  · split at h
    · rename_i x l hx
      obtain ⟨v, hv, hs⟩ := mms_inv (P := P) h
      refine ⟨v, hv, fin fun ρ a' w hr => ?_⟩
      rw [hx] at hr
      obtain ⟨a'⟩ := a'
      cases hr with
      | cons hx1 hl =>
        obtain ⟨v', hv', hr'⟩ := hs ρ _ _ w hx1 hl
        exact ⟨v', hv', fun ty cs => by simp only [builtin, Builtin.min_, Sem.run_bind]; simp at hr'; rw [hr']; rfl⟩
    · cases h
  · split at h
    · rename_i x l hx
      obtain ⟨v, hv, hs⟩ := mms_inv (P := P) h
      refine ⟨v, hv, fin fun ρ a' w hr => ?_⟩
      rw [hx] at hr
      obtain ⟨a'⟩ := a'
      cases hr with
      | cons hx1 hl =>
        obtain ⟨v', hv', hr'⟩ := hs ρ _ _ w hx1 hl
        exact ⟨v', hv', fun ty cs => by simp only [builtin, Builtin.max_, Sem.run_bind]; simp at hr'; rw [hr']; rfl⟩
    · cases h
  · cases h
end
end Go.Ab
