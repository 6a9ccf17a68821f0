/- The abstract machine, 5: comparisons, conversions, addresses, parts. -/
import Derived.Test.YtdhghfkempgejaaGreatDoorAbEq
namespace Go.Ab
section
variable {R : Type} {P : Program}

section
variable {t : TypeId} {w : World} (d : Nat)
theorem eq_bool (hu : P.underlying t = some .bool) (a b : Bool) : (Op.equalIn (d + 1) t (.bool a) (.bool b)).run P w = .ok (a == b) w := by simp [Op.equalIn, run_underlying hu]
theorem eq_sl1 {e : TypeId} (hu : P.underlying t = some (.slice e)) (n c m k : Nat) (b : Option Addr) : (Op.equalIn (d + 1) t (.slice none n c) (.slice b m k)).run P w = .ok b.isNone w := by simp [Op.equalIn, run_underlying hu]
theorem eq_sl2 {e : TypeId} (hu : P.underlying t = some (.slice e)) (n c m k : Nat) (b : Option Addr) : (Op.equalIn (d + 1) t (.slice b m k) (.slice none n c)).run P w = .ok b.isNone w := by cases b <;> simp [Op.equalIn, run_underlying hu]
theorem eq_ptr1 {e : TypeId} (hu : P.underlying t = some (.pointer e)) (b : Option Addr) : (Op.equalIn (d + 1) t (.pointer none) (.pointer b)).run P w = .ok b.isNone w := by simp [Op.equalIn, run_underlying hu]
theorem eq_ptr2 {e : TypeId} (hu : P.underlying t = some (.pointer e)) (b : Option Addr) : (Op.equalIn (d + 1) t (.pointer b) (.pointer none)).run P w = .ok b.isNone w := by cases b <;> simp [Op.equalIn, run_underlying hu]
theorem eq_map1 {k e : TypeId} (hu : P.underlying t = some (.map k e)) (b : Option Nat) : (Op.equalIn (d + 1) t (.map none) (.map b)).run P w = .ok b.isNone w := by simp [Op.equalIn, run_underlying hu]
theorem eq_map2 {k e : TypeId} (hu : P.underlying t = some (.map k e)) (b : Option Nat) : (Op.equalIn (d + 1) t (.map b) (.map none)).run P w = .ok b.isNone w := by cases b <;> simp [Op.equalIn, run_underlying hu]
theorem eq_fn1 {x y : Array TypeId} {z : Bool} (hu : P.underlying t = some (.func x y z)) : (Op.equalIn (d + 1) t .nilFunc .nilFunc).run P w = .ok true w := by simp [Op.equalIn, run_underlying hu]
theorem eq_fn2 {x y : Array TypeId} {z : Bool} (hu : P.underlying t = some (.func x y z)) (f : Fn) (a b : Array Value) : (Op.equalIn (d + 1) t .nilFunc (.func f a b)).run P w = .ok false w := by simp [Op.equalIn, run_underlying hu]
theorem eq_fn3 {x y : Array TypeId} {z : Bool} (hu : P.underlying t = some (.func x y z)) (f : Fn) (a b : Array Value) : (Op.equalIn (d + 1) t (.func f a b) .nilFunc).run P w = .ok false w := by simp [Op.equalIn, run_underlying hu]
theorem eq_if1 {ms : Array (String × TypeId)} (hu : P.underlying t = some (.interface ms)) (u : TypeId) (v : Value) : (Op.equalIn (d + 1) t (.iface u v) .nilIface).run P w = .ok false w := by simp [Op.equalIn, run_underlying hu]
theorem eq_if2 {ms : Array (String × TypeId)} (hu : P.underlying t = some (.interface ms)) (u : TypeId) (v : Value) : (Op.equalIn (d + 1) t .nilIface (.iface u v)).run P w = .ok false w := by simp [Op.equalIn, run_underlying hu]
end

theorem tyOf_bool {t : TypeId} (h : tyOf P t = .bool) : P.underlying t = some .bool := by
  unfold tyOf at h; split at h <;> first | (cases h; done) | assumption
theorem tyOf_int {t : TypeId} {k : IntKind} (h : tyOf P t = .int k) : P.underlying t = some (.int k) := by
  unfold tyOf at h; split at h <;> first | (cases h; done) | (cases h; assumption)
theorem tyOf_str {t : TypeId} (h : tyOf P t = .str) : P.underlying t = some .string := by
  unfold tyOf at h; split at h <;> first | (cases h; done) | assumption
theorem tyOf_sl {t e : TypeId} (h : tyOf P t = .sl e) : P.underlying t = some (.slice e) := by
  unfold tyOf at h; split at h <;> first | (cases h; done) | (cases h; assumption)
theorem tyOf_ptr {t : TypeId} (h : tyOf P t = .ptr) : ∃ e, P.underlying t = some (.pointer e) := by
  unfold tyOf at h; split at h <;> first | (cases h; done) | exact ⟨_, by assumption⟩
theorem tyOf_map {t : TypeId} (h : tyOf P t = .map) : ∃ k e, P.underlying t = some (.map k e) := by
  unfold tyOf at h; split at h <;> first | (cases h; done) | exact ⟨_, _, by assumption⟩
theorem tyOf_fn {t : TypeId} (h : tyOf P t = .fn) : ∃ a b c, P.underlying t = some (.func a b c) := by
  unfold tyOf at h; split at h <;> first | (cases h; done) | exact ⟨_, _, _, by assumption⟩
theorem tyOf_iface {t : TypeId} (h : tyOf P t = .iface) : ∃ ms, P.underlying t = some (.interface ms) := by
  unfold tyOf at h; split at h <;> first | (cases h; done) | exact ⟨_, by assumption⟩

/-- What 'cmpK' decides, as the model decides it. -/
def CmpSem (P : Program) (op : BinOp) (t : TypeId) (x y : AV) (v : AV) : Prop :=
  ∀ (ρ : Ren) (ox oy : Operand) (x' y' : Value) (w : World), VR ρ x x' → VR ρ y y' → ∃ v', VR ρ v v' ∧ (do eqGuard op t ox oy x' y'; binOp op t x' y' : Sem Value).run P w = .ok v' w

theorem CmpSem.of {op : BinOp} {t : TypeId} {x y v : AV} (h : ∀ (ρ : Ren) (x' y' : Value) (w : World), VR ρ x x' → VR ρ y y' →
    ((∀ c d, ¬(x' = .agg c ∧ y' = .agg d)) ∧ ¬(x' = .nilIface ∧ y' = .nilIface)) ∧ ∃ v', VR ρ v v' ∧ (binOp op t x' y').run P w = .ok v' w) : CmpSem P op t x y v := by
  intro ρ ox oy x' y' w hx hy
  obtain ⟨hg, v', hv, hr⟩ := h ρ x' y' w hx hy
  exact ⟨v', hv, by simp only [Sem.run_bind, guard_plain P w hg, Result.andThen_ok, hr]⟩

theorem eqK_inv {op : BinOp} {b : Bool} {K : AV → Option R} {r : R} (h : eqK op b K = some r) : (op = .eql ∧ K (.bool b) = some r) ∨ (op = .neq ∧ K (.bool (!b)) = some r) := by
  unfold eqK at h
  split at h
  · exact .inl ⟨rfl, h⟩
  · rw [notB_eq] at h; exact .inr ⟨rfl, h⟩
  · cases h

theorem eql_run {t : TypeId} {x y : Value} {w : World} {b : Bool} (hd : binOp .eql t x y = (do pure (.bool (← Op.equal t x y)))) (he : (Op.equal t x y).run P w = .ok b w) : (binOp .eql t x y).run P w = .ok (.bool b) w := by
  rw [hd]; simp [he]
theorem neq_run {t : TypeId} {x y : Value} {w : World} {b : Bool} (hd : binOp .neq t x y = (do pure (.bool (!(← Op.equal t x y))))) (he : (Op.equal t x y).run P w = .ok b w) : (binOp .neq t x y).run P w = .ok (.bool (!b)) w := by
  rw [hd]; simp [he]

theorem cmp_core {op : BinOp} {t : TypeId} {x y : AV} {b : Bool} {K : AV → Option R} {r : R} (h : eqK op b K = some r)
    (hs : ∀ (ρ : Ren) (x' y' : Value) (w : World), VR ρ x x' → VR ρ y y' → ((∀ c d, ¬(x' = .agg c ∧ y' = .agg d)) ∧ ¬(x' = .nilIface ∧ y' = .nilIface)) ∧
      binOp .eql t x' y' = (do pure (.bool (← Op.equal t x' y'))) ∧ binOp .neq t x' y' = (do pure (.bool (!(← Op.equal t x' y')))) ∧ (Op.equal t x' y').run P w = .ok b w) :
    ∃ v, K v = some r ∧ CmpSem P op t x y v := by
  rcases eqK_inv h with ⟨rfl, hk⟩ | ⟨rfl, hk⟩
  · refine ⟨_, hk, CmpSem.of fun ρ x' y' w hx hy => ?_⟩
    obtain ⟨hg, h1, _, h3⟩ := hs ρ x' y' w hx hy
    exact ⟨hg, _, .bool _, eql_run h1 h3⟩
  · refine ⟨_, hk, CmpSem.of fun ρ x' y' w hx hy => ?_⟩
    obtain ⟨hg, _, h2, h3⟩ := hs ρ x' y' w hx hy
    exact ⟨hg, _, .bool _, neq_run h2 h3⟩

theorem isNone_bool {α : Type} (o : Option α) : (o.isNone = true) = (o = none) := by cases o <;> simp

theorem cmp_sound {op : BinOp} {t : TypeId} {x y : AV} {K : AV → Option R} {r : R} (h : cmpK (tyOf P t) op x y K = some r) : ∃ v, K v = some r ∧ CmpSem P op t x y v := by
  unfold cmpK at h
  split at h
  · rename_i hty
    have hu := tyOf_bool hty
    rw [Option.bind_eq_some_iff] at h; obtain ⟨a, ha, h⟩ := h
    rw [Option.bind_eq_some_iff] at h; obtain ⟨b, hb, h⟩ := h
    rw [asB_some ha, asB_some hb]
    rw [eqB_eq] at h
    refine cmp_core h fun ρ x' y' w hx hy => ?_
    cases hx; cases hy
    exact ⟨by simp, rfl, rfl, eq_bool 9999 hu a b⟩
  · rename_i e hty
    have hu := tyOf_sl hty
    split at h
    · refine cmp_core h fun ρ x' y' w hx hy => ?_
      cases hy with
      | nilSl n c => cases hx <;> exact ⟨by simp, rfl, rfl, eq_sl2 9999 hu _ _ _ _ _⟩
    · refine cmp_core h fun ρ x' y' w hx hy => ?_
      cases hx with
      | nilSl n c => cases hy <;> exact ⟨by simp, rfl, rfl, eq_sl1 9999 hu _ _ _ _ _⟩
    · cases h
  · rename_i hty
    obtain ⟨e, hu⟩ := tyOf_ptr hty
    split at h
    · refine cmp_core h fun ρ x' y' w hx hy => ?_
      cases hy
      cases hx <;> exact ⟨by simp, rfl, rfl, eq_ptr2 9999 hu _⟩
    · refine cmp_core h fun ρ x' y' w hx hy => ?_
      cases hx
      cases hy <;> exact ⟨by simp, rfl, rfl, eq_ptr1 9999 hu _⟩
    · cases h
  · rename_i hty
    obtain ⟨k, e, hu⟩ := tyOf_map hty
    split at h
    · refine cmp_core h fun ρ x' y' w hx hy => ?_
      cases hy
      cases hx <;> exact ⟨by simp, rfl, rfl, eq_map2 9999 hu _⟩
    · refine cmp_core h fun ρ x' y' w hx hy => ?_
      cases hx
      cases hy <;> exact ⟨by simp, rfl, rfl, eq_map1 9999 hu _⟩
    · cases h
  · rename_i hty
    obtain ⟨a, b, c, hu⟩ := tyOf_fn hty
    split at h
    · refine cmp_core h fun ρ x' y' w hx hy => ?_
      cases hy; cases hx
      exact ⟨by simp, rfl, rfl, eq_fn3 9999 hu _ _ _⟩
    · refine cmp_core h fun ρ x' y' w hx hy => ?_
      cases hy; cases hx
      exact ⟨by simp, rfl, rfl, eq_fn1 9999 hu⟩
    · refine cmp_core h fun ρ x' y' w hx hy => ?_
      cases hy; cases hx
      exact ⟨by simp, rfl, rfl, eq_fn2 9999 hu _ _ _⟩
    · cases h
  · rename_i hty
    obtain ⟨ms, hu⟩ := tyOf_iface hty
    split at h
    · refine cmp_core h fun ρ x' y' w hx hy => ?_
      cases hy; cases hx
      exact ⟨by simp, rfl, rfl, eq_if1 9999 hu _ _⟩
    · refine cmp_core h fun ρ x' y' w hx hy => ?_
      cases hy; cases hx
      exact ⟨by simp, rfl, rfl, eq_if2 9999 hu _ _⟩
    · cases h
  · cases h

theorem agg_sound {op : BinOp} {t : TypeId} {l m : List AV} {K : AV → Option R} {r : R} (h : aggK P op t l m K = some r) : ∃ v, K v = some r ∧ CmpSem P op t (.agg l) (.agg m) v := by
  unfold aggK at h
  cases ha : aggT P t with
  | false => rw [ha] at h; cases h
  | true =>
  rw [ha, br_true] at h
  cases hg : P.eqGuardType P.depth t with
  | true => rw [hg] at h; cases h
  | false =>
    rw [hg, br_false] at h
    obtain ⟨b, hb, h⟩ := Option.bind_eq_some_iff.1 h
    have shaped : ∀ (ρ : Ren) (q : List AV) (v : Value), VR ρ (.agg q) v → ∃ c, v = .agg c ∧ ((∃ d, P.underlying t = some d ∧ isAggD d = false) ∨ Shaped P ρ t q v) := by
      intro ρ q v hv
      cases hv with
      | agg hq =>
        rename_i c
        refine ⟨c, rfl, ?_⟩
        by_cases hd : ∃ d, P.underlying t = some d ∧ isAggD d = false
        · exact .inl hd
        · refine .inr ⟨hq, fun d hu => ⟨fun _ => ⟨c, rfl⟩, fun q => absurd ⟨d, hu, q⟩ hd⟩⟩
    have hagg : ¬ ∃ d, P.underlying t = some d ∧ isAggD d = false := by
      rintro ⟨d, hu, hd⟩
      unfold aggT at ha
      rw [hu] at ha
      simp only at ha
      rw [hd] at ha; cases ha
    have key : ∀ (ρ : Ren) (ox oy : Operand) (x' y' : Value) (w : World), VR ρ (.agg l) x' → VR ρ (.agg m) y' → (eqGuard op t ox oy x' y').run P w = .ok () w ∧
        binOp .eql t x' y' = (do pure (.bool (← Op.equal t x' y'))) ∧ binOp .neq t x' y' = (do pure (.bool (!(← Op.equal t x' y')))) ∧ (Op.equal t x' y').run P w = .ok b w := by
      intro ρ ox oy x' y' w hx hy
      obtain ⟨c, rfl, h1⟩ := shaped ρ l x' hx
      obtain ⟨c', rfl, h2⟩ := shaped ρ m y' hy
      have h1 := h1.resolve_left hagg
      have h2 := h2.resolve_left hagg
      refine ⟨?_, rfl, rfl, eqV_sound 8 9992 t l m b _ _ w hb h1 h2⟩
      unfold eqGuard
      cases op <;> simp [hg]
    rcases eqK_inv h with ⟨rfl, hk⟩ | ⟨rfl, hk⟩
    · refine ⟨_, hk, fun ρ ox oy x' y' w hx hy => ?_⟩
      obtain ⟨k1, k2, _, k4⟩ := key ρ ox oy x' y' w hx hy
      exact ⟨_, .bool _, by simp only [Sem.run_bind, k1, Result.andThen_ok]; exact eql_run k2 k4⟩
    · refine ⟨_, hk, fun ρ ox oy x' y' w hx hy => ?_⟩
      obtain ⟨k1, _, k3, k4⟩ := key ρ ox oy x' y' w hx hy
      exact ⟨_, .bool _, by simp only [Sem.run_bind, k1, Result.andThen_ok]; exact neq_run k3 k4⟩

theorem bin_sound {op : BinOp} {t : TypeId} {x y : AV} {K : AV → Option R} {r : R} (h : binK P op t x y K = some r) : ∃ v, K v = some r ∧ CmpSem P op t x y v := by
  unfold binK at h
  split at h
  · rename_i k a
    split at h
    · rename_i k' b
      have plain : ∀ {op : BinOp}, br (kEq k k') (intBinK op k a b K) none = some r → ∃ v, K v = some r ∧ CmpSem P op t (.int k a) (.int k' b) v := by
        intro op1 hh
        cases e : kEq k k' with
        | false => rw [e] at hh; cases hh
        | true =>
          rw [e] at hh
          have hkk := kEq_eq e
          obtain ⟨v, hk, v', hv, hr⟩ := intBin_sound (show intBinK op1 k a b K = some r from hh) t
          refine ⟨v, hk, CmpSem.of fun ρ x' y' w hx hy => ?_⟩
          cases hx; cases hy
          rw [← hkk]
          exact ⟨by simp, v', hv ρ, hr P w⟩
      split at h
      · obtain ⟨v, hk, v', hv, hr⟩ := shift_sound (k' := k') h t
        refine ⟨v, hk, CmpSem.of fun ρ x' y' w hx hy => ?_⟩
        cases hx; cases hy
        exact ⟨by simp, v', hv ρ, hr P w⟩
      · obtain ⟨v, hk, v', hv, hr⟩ := shift_sound (k' := k') h t
        refine ⟨v, hk, CmpSem.of fun ρ x' y' w hx hy => ?_⟩
        cases hx; cases hy
        exact ⟨by simp, v', hv ρ, hr P w⟩
      · exact plain h
    · cases h
  · rename_i a
    split at h
    · rename_i b
      rw [Option.bind_eq_some_iff] at h; obtain ⟨v, hv, hk⟩ := h
      obtain ⟨v', hv', hr⟩ := strBin_sound hv t
      refine ⟨v, hk, CmpSem.of fun ρ x' y' w hx hy => ?_⟩
      cases hx; cases hy
      exact ⟨by simp, v', hv' ρ, hr P w⟩
    · cases h
  · rename_i l
    split at h
    · rename_i m
      exact agg_sound h
    · cases h
  · exact cmp_sound h
end
end Go.Ab
