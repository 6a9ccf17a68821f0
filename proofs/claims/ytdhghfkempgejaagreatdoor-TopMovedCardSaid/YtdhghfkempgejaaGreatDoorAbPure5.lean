/- The abstract machine, 8: those steps are the model's. -/
import Derived.Test.YtdhghfkempgejaaGreatDoorAbPure4
namespace Go.Ab
section
variable {R : Type} {P : Program} {E : Operand → AV} {ty : TypeId} {K : AV → Option R} {r : R}

theorem move_sound {x : Operand} (h : K (E x) = some r) : ∃ v, K v = some r ∧ PureOp P (.move x) ty E v :=
  ⟨_, h, fun ρ e w hE => ⟨_, hE x, fun o ho _ => by simp [execOp, ho]⟩⟩
theorem assign_sound {x : Operand} (h : K (E x) = some r) : ∃ v, K v = some r ∧ PureOp P (.assign x) ty E v :=
  ⟨_, h, fun ρ e w hE => ⟨_, hE x, fun o ho _ => by simp [execOp, ho]⟩⟩

theorem pick_inv {c a b : AV} (h : pickK c a b K = some r) : ∃ t, c = .bool t ∧ ∃ v, K v = some r ∧ ∀ (ρ : Ren) (a' b' : Value), VR ρ a a' → VR ρ b b' → VR ρ v (if t then a' else b') := by
  unfold pickK at h
  split at h
  · rename_i t
    refine ⟨t, rfl, ?_⟩
    have plain : br t (K a) (K b) = some r → ∃ v, K v = some r ∧ ∀ (ρ : Ren) (a' b' : Value), VR ρ a a' → VR ρ b b' → VR ρ v (if t then a' else b') := by
      intro h
      cases t with
      | true => exact ⟨a, h, fun ρ a' b' ha _ => by simpa using ha⟩
      | false => exact ⟨b, h, fun ρ a' b' _ hb => by simpa using hb⟩
    split at h
    · rename_i k x
      split at h
      · rename_i k' y
        obtain ⟨e, hK⟩ := br_some h
        have := kEq_eq e; subst this
        refine ⟨_, hK, fun ρ a' b' ha hb => ?_⟩
        cases ha; cases hb
        cases t <;> exact .int _ _
      · exact plain h
    · rename_i x
      split at h
      · rename_i y
        refine ⟨_, h, fun ρ a' b' ha hb => ?_⟩
        cases ha; cases hb
        cases t <;> exact .bool _
      · exact plain h
    · exact plain h
  · cases h
theorem pick_sound {c a b : Operand} (h : pickK (E c) (E a) (E b) K = some r) : ∃ v, K v = some r ∧ PureOp P (.pick c a b) ty E v := by
  obtain ⟨t, hc, v, hk, hv⟩ := pick_inv h
  refine ⟨v, hk, fun ρ e w hE => ⟨_, hv ρ _ _ (hE a) (hE b), fun o ho _ => ?_⟩⟩
  have hcc := hE c
  rw [hc] at hcc
  generalize hv : e c = cv at *
  cases hcc
  cases t <;> simp [execOp, ho, hv, asBool]

theorem nil_sound {x : Operand} (h : nilK (E x) K = some r) : ∃ v, K v = some r ∧ PureOp P (.nilCheck x) ty E v := by
  unfold nilK at h
  split at h
  · rename_i oa ha
    obtain ⟨a, hoa, hK⟩ := bind_some h
    subst hoa
    refine ⟨_, hK, fun ρ e w hE => ?_⟩
    have := hE x
    rw [ha] at this
    refine ⟨_, this, fun o ho _ => ?_⟩
    generalize hv : e x = v at *
    cases this
    simp [execOp, ho, hv]
  · rename_i f a c ha
    refine ⟨_, h, fun ρ e w hE => ?_⟩
    have := hE x
    rw [ha] at this
    refine ⟨_, this, fun o ho _ => ?_⟩
    generalize hv : e x = v at *
    cases this
    simp [execOp, ho, hv]
  · cases h

theorem un_sound {op : UnOp} {t : TypeId} {x : Operand} (h : unK op (E x) K = some r) : ∃ v, K v = some r ∧ PureOp P (.unOp op t x) ty E v := by
  unfold unK at h
  simp only [bindI_eq] at h
  split at h
  · split at h
    · rename_i k n hx
      refine ⟨_, h, fun ρ e w hE => ?_⟩
      have := hE x; rw [hx] at this
      generalize hv : e x = v at *
      cases this
      exact ⟨_, .int _ _, fun o ho _ => by rw [wr_eq]; simp [execOp, ho, hv, Op.unary, Op.intArith]⟩
    · cases h
  · split at h
    · rename_i k n hx
      refine ⟨_, h, fun ρ e w hE => ?_⟩
      have := hE x; rw [hx] at this
      generalize hv : e x = v at *
      cases this
      exact ⟨_, .int _ _, fun o ho _ => by rw [xorI_eq]; simp [execOp, ho, hv, Op.unary, Op.intBits, bitsOf]⟩
    · cases h
  · split at h
    · rename_i b hx
      refine ⟨_, h, fun ρ e w hE => ?_⟩
      have := hE x; rw [hx] at this
      generalize hv : e x = v at *
      cases this
      exact ⟨_, .bool _, fun o ho _ => by rw [notB_eq]; simp [execOp, ho, hv, Op.unary]⟩
    · cases h
  · cases h

theorem bin_op_sound {op : BinOp} {t u : TypeId} {x y : Operand} (h : binK P op t (E x) (E y) K = some r) : ∃ v, K v = some r ∧ PureOp P (.binOp op t x y u) ty E v := by
  obtain ⟨v, hk, hs⟩ := bin_sound h
  refine ⟨v, hk, fun ρ e w hE => ?_⟩
  obtain ⟨v', hv, hr⟩ := hs ρ x y (e x) (e y) w (hE x) (hE y)
  refine ⟨v', hv, fun o ho _ => ?_⟩
  simp only [execOp, ho]
  simp only [Sem.run_bind] at hr ⊢
  rw [hr]; rfl

theorem conv_sound {src dst : TypeId} {x : Operand} (h : convK P dst src (E x) K = some r) : ∃ v, K v = some r ∧ PureOp P (.convert src dst x) ty E v := by
  unfold convK at h
  simp only [bindI_eq] at h
  split at h
  · rename_i k0 n hx
    split at h
    · rename_i d0 hs
      split at h
      · rename_i k hd
        refine ⟨_, h, fun ρ e w hE => ?_⟩
        have := hE x; rw [hx] at this
        generalize hv : e x = v at *
        cases this
        refine ⟨_, .int _ _, fun o ho _ => ?_⟩
        rw [wr_eq]
        simp only [execOp, ho, hv, convert, Sem.run_bind, run_underlying hs, run_underlying hd, Result.andThen_ok]
        simp [Conv.intToInt]
      · cases h
    · cases h
  · rename_i s hx
    split at h
    · rename_i hs
      split at h
      · rename_i hd
        refine ⟨_, h, fun ρ e w hE => ?_⟩
        have := hE x; rw [hx] at this
        generalize hv : e x = v at *
        cases this
        refine ⟨_, .str _, fun o ho _ => ?_⟩
        simp [execOp, ho, hv, convert, run_underlying hs, run_underlying hd]
      · cases h
    · cases h
  · cases h

theorem fieldOff_some {s : TypeId} {i off : Nat} (h : fieldOff P s i = some off) : ∃ fs f inf, P.underlying s = some (.struct fs) ∧ fs[i]? = some f ∧ P.info? f.type = some inf ∧ inf.size ≠ 0 ∧ f.offset = off := by
  unfold fieldOff fieldAt at h
  split at h
  · rename_i f hf
    split at hf
    · rename_i fs hu
      split at h
      · rename_i inf hi
        split at h
        · cases h
        · cases h; exact ⟨fs, f, inf, hu, hf, hi, by assumption, rfl⟩
      · cases h
    · cases hf
  · cases h
theorem fieldAddr_sound {s : TypeId} {x : Operand} {i : Nat} (h : fieldAddrK P s i (E x) K = some r) : ∃ v, K v = some r ∧ PureOp P (.fieldAddr s x i) ty E v := by
  unfold fieldAddrK at h
  split at h
  · rename_i off hoff
    obtain ⟨fs, f, inf, hu, hf, hi, hz, ho⟩ := fieldOff_some hoff
    split at h
    · rename_i oa ha
      obtain ⟨a, hoa, hK⟩ := bind_some h
      subst hoa
      refine ⟨_, hK, fun ρ e w hE => ?_⟩
      have := hE x; rw [ha] at this
      generalize hv : e x = v at *
      cases this with
      | ptr hl hlo =>
        rename_i l
        refine ⟨_, VR.ptr (a := ⟨a.b, a.g, a.o + off⟩) hl (by simp; omega), fun o ho' _ => ?_⟩
        simp [execOp, ho', hv, Instr.fieldAt, run_underlying hu, hf, Instr.sureAddr, fieldPlace, run_sizeOf w hi, cellsOf_of hi, hz, ho, Loc.at_add hlo]
    · cases h
  · cases h

theorem field_sound {s : TypeId} {x : Operand} {i : Nat} (h : fieldK P s i (E x) K = some r) : ∃ v, K v = some r ∧ PureOp P (.field s x i) ty E v := by
  unfold fieldK at h
  split at h
  · rename_i f hf
    unfold fieldAt at hf
    split at hf
    · rename_i fs hu
      split at h
      · cases h
      · rename_i hty
        split at h
        · rename_i l hl
          obtain ⟨v, hk, hp⟩ := part_sound h (fun e => hty e)
          refine ⟨v, hk, fun ρ e w hE => ?_⟩
          have := hE x; rw [hl] at this
          generalize hv : e x = xv at *
          cases this with
          | agg hc =>
            rename_i c
            obtain ⟨v', hv', hr⟩ := hp ρ c w hc
            refine ⟨v', hv', fun o ho _ => ?_⟩
            simp [execOp, ho, hv, Instr.field, run_underlying hu, hf, asAgg, hr]
        · cases h
    · cases hf
  · cases h

theorem elemSz_some {e : TypeId} {z : Nat} (h : elemSz P e = some z) : ∃ i, P.info? e = some i ∧ P.cellsOf e = z := by
  unfold elemSz at h
  split at h
  · rename_i i hi; cases h; exact ⟨i, hi, cellsOf_of hi⟩
  · cases h

theorem idxAddr_sound {t : TypeId} {x i : Operand} (h : idxAddrK P t (E x) (E i) K = some r) : ∃ v, K v = some r ∧ PureOp P (.indexAddr t x i) ty E v := by
  unfold idxAddrK at h
  split at h
  · rename_i el hu
    split at h
    · rename_i z hz
      obtain ⟨inf, hi, hc⟩ := elemSz_some hz
      split at h
      · rename_i s hs
        split at h
        · rename_i k n hn
          obtain ⟨m, hm, hK1⟩ := bind_some h
          obtain ⟨a, ha, hK⟩ := bind_some hK1
          obtain ⟨e1, hlt⟩ := idxN_some hm
          subst e1
          refine ⟨_, hK, fun ρ e w hE => ?_⟩
          have hx := hE x; rw [hs] at hx
          have hy := hE i; rw [hn] at hy
          generalize hv : e x = xv at *
          generalize hv' : e i = iv at *
          cases hy
          obtain ⟨sa, sn, sc⟩ := s
          simp only at ha hlt
          subst ha
          have fin : ∀ (l : Loc) (c : Nat), ρ a.b a.g = some l → l.lo ≤ a.o → xv = .slice (some (l.at a.o)) sn c →
              ∃ v', VR ρ (.ptr (some ⟨a.b, a.g, Nat.add a.o (Nat.mul m z)⟩)) v' ∧ ∀ o : Oper, o.op = .indexAddr t x i → o.type = ty → (execOp e o).run P w = .ok (.value v') w := by
            intro l c hl hlo hxv
            refine ⟨_, VR.ptr (a := ⟨a.b, a.g, a.o + m * z⟩) hl (by simp; omega), fun o ho _ => ?_⟩
            simp [execOp, ho, hv, hv', hxv, Instr.indexAt, asIntOf, run_underlying hu, hlt, run_sizeOf w hi, hc, Loc.at_add hlo]
          cases hx with
          | sl n c hl hlo => exact fin _ _ hl hlo rfl
          | slU n c z' hl hlo hnc hroom => exact fin _ _ hl hlo rfl
          | slE xx cc hl hlo hc0 => omega
        · cases h
      · cases h
    · cases h
  · rename_i len el hu
    split at h
    · rename_i z hz
      obtain ⟨inf, hi, hc⟩ := elemSz_some hz
      split at h
      · rename_i oa ha
        obtain ⟨a, hoa, h1⟩ := bind_some h
        subst hoa
        split at h1
        · rename_i k n hn
          obtain ⟨m, hm, hK⟩ := bind_some h1
          obtain ⟨e1, hlt⟩ := idxN_some hm
          subst e1
          refine ⟨_, hK, fun ρ e w hE => ?_⟩
          have hx := hE x; rw [ha] at hx
          have hy := hE i; rw [hn] at hy
          generalize hv : e x = xv at *
          generalize hv' : e i = iv at *
          cases hy
          cases hx with
          | ptr hl hlo =>
            refine ⟨_, VR.ptr (a := ⟨a.b, a.g, a.o + m * z⟩) hl (by simp; omega), fun o ho _ => ?_⟩
            simp [execOp, ho, hv, hv', Instr.indexAt, Instr.sureAddr, asIntOf, run_underlying hu, hlt, run_sizeOf w hi, hc, Loc.at_add hlo]
        · cases h1
      · cases h
    · cases h
  · cases h
end
end Go.Ab
