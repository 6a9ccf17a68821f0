/- The abstract machine, 9: indexing of values, cuts, the quiet builtins; all of them together. -/
import Derived.Test.YtdhghfkempgejaaGreatDoorAbPure5
namespace Go.Ab
section
variable {R : Type} {P : Program} {E : Operand → AV} {ty : TypeId} {K : AV → Option R} {r : R}

theorem strAt_some {s : ByteArray} {i b : Int} (h : strAt s i = some b) : 0 ≤ i ∧ ∃ c, s[i.toNat]? = some c ∧ b = c.toNat := by
  unfold strAt at h
  obtain ⟨m, hm, hK⟩ := bind_some h
  have := natI_some hm; subst this
  rw [Option.map_eq_some_iff] at hK
  obtain ⟨c, hc, rfl⟩ := hK
  exact ⟨by omega, c, by simpa using hc, rfl⟩

theorem index_sound {t : TypeId} {x i : Operand} (h : indexK P t (E x) (E i) K = some r) : ∃ v, K v = some r ∧ PureOp P (.index t x i) ty E v := by
  unfold indexK at h
  split at h
  · rename_i k n hn
    split at h
    · rename_i l hl
      split at h
      · rename_i len el hu
        split at h
        · cases h
        · rename_i hty
          split at h
          · rename_i z hz
            obtain ⟨inf, hi, hc⟩ := elemSz_some hz
            obtain ⟨m, hm, hK⟩ := bind_some h
            obtain ⟨e1, hlt⟩ := idxN_some hm
            obtain ⟨v, hk, hp⟩ := part_sound hK (fun e => hty e)
            refine ⟨v, hk, fun ρ e w hE => ?_⟩
            have hx := hE x; rw [hl] at hx
            have hy := hE i; rw [hn] at hy
            generalize hv : e x = xv at *
            generalize hv' : e i = iv at *
            cases hy
            cases hx with
            | agg hcs =>
              rename_i c
              obtain ⟨v', hv1, hr⟩ := hp ρ c w hcs
              refine ⟨v', hv1, fun o ho _ => ?_⟩
              have hr' : (part el c (m * z)).run P w = .ok v' w := hr
              subst e1
              simp [execOp, ho, hv, hv', Instr.index, asIntOf, run_underlying hu, hlt, run_sizeOf w hi, hc, hr']
          · cases h
      · cases h
    · rename_i s hs
      split at h
      · rename_i hu
        obtain ⟨b, hb, hK⟩ := bind_some h
        obtain ⟨h0, c, hcc, hbc⟩ := strAt_some hb
        refine ⟨_, hK, fun ρ e w hE => ?_⟩
        have hx := hE x; rw [hs] at hx
        have hy := hE i; rw [hn] at hy
        generalize hv : e x = xv at *
        generalize hv' : e i = iv at *
        cases hy; cases hx
        refine ⟨_, .int _ _, fun o ho _ => ?_⟩
        subst hbc
        simp [execOp, ho, hv, hv', Instr.index, asIntOf, run_underlying hu, h0, hcc]
      · cases h
    · cases h
  · cases h

theorem extract_sound {x : Operand} {i : Nat} (h : extractK P ty (E x) i K = some r) : ∃ v, K v = some r ∧ PureOp P (.extract x i) ty E v := by
  unfold extractK at h
  split at h
  · rename_i l hl
    obtain ⟨v, hv, hK⟩ := bind_some h
    refine ⟨v, castK_some hK, fun ρ e w hE => ?_⟩
    have hx := hE x; rw [hl] at hx
    generalize hxv : e x = xv at *
    cases hx with
    | tuple hc =>
      rename_i c
      rw [nthL_eq] at hv
      obtain ⟨v', h1, h2⟩ := hc.get hv
      refine ⟨v', h2, fun o ho _ => ?_⟩
      rw [Array.getElem?_toList] at h1
      simp [execOp, ho, hxv, Instr.extract, h1]
  · cases h

/-! Cuts -/
theorem run_sliceBound {v : Value} {k : IntKind} {m y : Nat} (h : m ≤ y) (c : BoundsCode) (w : World) (hv : v = .int k (m : Int)) : (Instr.sliceBound v y c).run P w = .ok m w := by
  subst hv
  simp [Instr.sliceBound, asIntOf, h]

def OptRep (ρ : Ren) : Option AV → Option Value → Prop
  | none, none => True
  | some a, some b => VR ρ a b
  | _, _ => False

theorem intOf_rep {ρ : Ren} {a : Option AV} {b : Option Value} {i : Option Int} (h : intOf? a = some i) (hr : OptRep ρ a b) :
    (i = none ∧ b = none) ∨ ∃ k n, i = some n ∧ b = some (.int k n) := by
  unfold intOf? at h
  split at h
  · cases h
    cases b with
    | none => exact .inl ⟨rfl, rfl⟩
    | some _ => exact hr.elim
  · cases h
    cases b with
    | none => exact hr.elim
    | some v => cases hr; exact .inr ⟨_, _, rfl, rfl⟩
  · cases h

theorem bound_some {x : Option Int} {d n : Nat} (h : bound x d = some n) : (x = none ∧ n = d) ∨ x = some (n : Int) := by
  unfold bound at h
  split at h
  · exact .inr (by rw [natI_some h])
  · cases h; exact .inl ⟨rfl, rfl⟩

theorem run_bounds {len cap : Nat} {lo hi mx : Option Int} {lo' hi' mx' : Option Value} {l h m : Nat} (w : World)
    (hl : (lo = none ∧ lo' = none) ∨ ∃ k n, lo = some n ∧ lo' = some (.int k n))
    (hh : (hi = none ∧ hi' = none) ∨ ∃ k n, hi = some n ∧ hi' = some (.int k n))
    (hm : (mx = none ∧ mx' = none) ∨ ∃ k n, mx = some n ∧ mx' = some (.int k n))
    (bl : bound lo 0 = some l) (bh : bound hi len = some h) (bm : bound mx cap = some m)
    (hlh : l ≤ h) (hhm : h ≤ m) (hmc : m ≤ cap) (hno : ¬(hi = none ∧ mx ≠ none)) (sl : Bool) :
    (Instr.sliceBounds sl len cap lo' hi' mx').run P w = .ok (l, h, m) w := by
  have g : ∀ {k : IntKind} {n : Int} {m y : Nat}, natI n = some m → m ≤ y → ∀ c, (Instr.sliceBound (.int k n) y c).run P w = .ok m w :=
    fun {k n m y} e h c => by
      have := natI_some e
      subst this
      exact run_sliceBound (k := k) h c w rfl
  unfold Instr.sliceBounds
  rcases hm with ⟨rfl, rfl⟩ | ⟨k1, n1, rfl, rfl⟩ <;> rcases hh with ⟨rfl, rfl⟩ | ⟨k2, n2, rfl, rfl⟩ <;> rcases hl with ⟨rfl, rfl⟩ | ⟨k3, n3, rfl, rfl⟩
  · cases bl; cases bh; cases bm; simp
  · cases bh; cases bm; simp [g bl hlh]
  · cases bl; cases bm; simp [g bh hhm]
  · cases bm; simp [g bh hhm, g bl hlh]
  · exact absurd ⟨rfl, by simp⟩ hno
  · exact absurd ⟨rfl, by simp⟩ hno
  · cases bl; simp [g bh hhm, g bm hmc]
  · simp [g bh hhm, g bl hlh, g bm hmc]

theorem natI_ofNat (n : Nat) : natI (n : Int) = some n := rfl

/-- The cut of a slice as the model makes it. -/
theorem cut_sound {s s' : Sl} {z l h : Nat} {mx : Option Int} (hc : cutAt s z l h mx = some s') (ρ : Ren) (v : Value) (hv : VR ρ (.sl s) v) :
    ∃ a c, v = .slice a s.n c ∧ l ≤ h ∧ ∃ m, bound mx c = some m ∧ h ≤ m ∧ m ≤ c ∧
      VR ρ (.sl s') (.slice (if m = l then a else a.map (·.add (l * z))) (h - l) (m - l)) := by
  unfold cutAt at hc
  obtain ⟨h1, hc⟩ := br_some hc
  have hlh := ble_le h1
  obtain ⟨sa, sn, sc⟩ := s
  have mvA : ∀ m, moveA ⟨sa, sn, sc⟩ l m z = if m = l then sa else sa.map fun a => ⟨a.b, a.g, a.o + l * z⟩ := by
    intro m
    unfold moveA
    cases e : Nat.beq m l with
    | true => rw [if_pos (Nat.eq_of_beq_eq_true e)]
    | false => rw [if_neg (Nat.ne_of_beq_eq_false e)]; rfl
  -- a slice with a known capacity, cut to a known one
  have known : ∀ (c m : Nat), sc = .known c → m ≤ c → h ≤ m → ∀ v, VR ρ (.sl ⟨sa, sn, sc⟩) v → ∃ a, v = .slice a sn c ∧
      VR ρ (.sl ⟨moveA ⟨sa, sn, sc⟩ l m z, h - l, .known (m - l)⟩) (.slice (if m = l then a else a.map (·.add (l * z))) (h - l) (m - l)) := by
    intro c m hsc hmc hhm v hv
    subst hsc
    rw [mvA]
    cases hv with
    | nilSl n c =>
      refine ⟨none, rfl, ?_⟩
      by_cases e : m = l
      · rw [if_pos e, if_pos e]; exact .nilSl _ _
      · rw [if_neg e, if_neg e]; exact .nilSl _ _
    | sl n c hl hlo =>
      refine ⟨_, rfl, ?_⟩
      by_cases e : m = l
      · rw [if_pos e, if_pos e]; exact .sl _ _ hl hlo
      · rw [if_neg e, if_neg e, Option.map_some, Option.map_some, Loc.at_add hlo]
        exact .sl (a := ⟨_, _, _⟩) _ _ hl (Nat.le_trans hlo (Nat.le_add_right _ _))
    | slE x c hl hlo hc0 =>
      have hc0' : c = 0 := hc0
      refine ⟨_, by rw [hc0'], ?_⟩
      obtain rfl : m = 0 := by omega
      obtain rfl : h = 0 := by omega
      obtain rfl : l = 0 := by omega
      simp only [if_true, Nat.sub_self]
      exact .slE x _ hl hlo rfl
  cases mx with
  | some i =>
    simp only at hc
    obtain ⟨m, hm, hc⟩ := bind_some hc
    obtain ⟨h2, hc⟩ := br_some hc
    obtain ⟨h3, hc⟩ := br_some hc
    have hhm := ble_le h2
    have hmc := ble_le h3
    cases hc
    have hbm : ∀ c, bound (some i) c = some m := fun c => hm
    cases sc with
    | known c =>
      obtain ⟨a, e, hr⟩ := known c m rfl hmc hhm v hv
      exact ⟨a, c, e, hlh, m, hbm c, hhm, hmc, hr⟩
    | unk z' =>
      have hmc' : m ≤ sn := hmc
      rw [mvA]
      cases hv with
      | slU n c z hl hlo hnc hroom =>
        refine ⟨_, c, rfl, hlh, m, hbm c, hhm, by omega, ?_⟩
        by_cases e : m = l
        · rw [if_pos e, if_pos e]; exact .sl _ _ hl hlo
        · rw [if_neg e, if_neg e, Option.map_some, Option.map_some, Loc.at_add hlo]
          exact .sl (a := ⟨_, _, _⟩) _ _ hl (Nat.le_trans hlo (Nat.le_add_right _ _))
      | slE x c hl hlo hc0 =>
        refine ⟨_, 0, rfl, hlh, m, hbm 0, hhm, by omega, ?_⟩
        obtain rfl : m = 0 := by omega
        obtain rfl : h = 0 := by omega
        obtain rfl : l = 0 := by omega
        simp only [if_true]
        exact .slE x _ hl hlo rfl
  | none =>
    simp only at hc
    cases sc with
    | known c =>
      simp only at hc
      obtain ⟨h2, hc⟩ := br_some hc
      have hhc := ble_le h2
      cases hc
      obtain ⟨a, e, hr⟩ := known c c rfl (Nat.le_refl _) hhc v hv
      exact ⟨a, c, e, hlh, c, rfl, hhc, Nat.le_refl _, hr⟩
    | unk z' =>
      simp only at hc
      obtain ⟨h2, hc⟩ := br_some hc
      obtain ⟨h3, hc⟩ := br_some hc
      have hhn := ble_le h2
      have hzz := Nat.eq_of_beq_eq_true h3
      subst hzz
      cases hc
      cases hv with
      | @slU a lc n c z hl hlo hnc hroom =>
        refine ⟨_, c, rfl, hlh, c, rfl, by omega, Nat.le_refl _, ?_⟩
        simp only [Option.map_some]
        by_cases e : c = l
        · rw [if_pos e]
          obtain rfl : h = l := by omega
          rw [e, Nat.sub_self]
          have : h.sub h = 0 := Nat.sub_self h
          rw [this]
          exact .slE (a := ⟨a.b, a.g, _⟩) _ _ hl (Nat.le_trans hlo (Nat.le_add_right _ _)) rfl
        · rw [if_neg e, Loc.at_add hlo]
          refine .slU (a := ⟨a.b, a.g, _⟩) _ _ _ hl (Nat.le_trans hlo (Nat.le_add_right _ _)) (by show h - l ≤ c - l; omega) ?_
          have e1 : c * z = l * z + (c - l) * z := by rw [← Nat.add_mul]; congr 1; omega
          show lc.s + (a.o + Nat.mul l z - lc.lo) + (c - l) * z ≤ lc.size
          have e2 : Nat.mul l z = l * z := rfl
          rw [e2]
          omega
      | @slE a lc x c hl hlo hc0 =>
        refine ⟨_, 0, rfl, hlh, 0, rfl, by omega, Nat.le_refl _, ?_⟩
        obtain rfl : h = 0 := by omega
        obtain rfl : l = 0 := by omega
        simp only [if_true, Nat.sub_self, Option.map_some]
        exact .slE (a := ⟨a.b, a.g, _⟩) x _ hl (Nat.le_trans hlo (Nat.le_add_right _ _)) rfl
end
end Go.Ab
