/- The abstract machine, 12: reading maps. -/
import Derived.Test.YtdhghfkempgejaaGreatDoorAbRead
namespace Go.Ab
open Go.RowKit
section
variable {R : Type} {P : Program} {E : Operand → AV} {ty : TypeId} {K : AV → Option R} {r : R} {w0 : World} {ρ : Ren} {H : Heap} {w : World}

noncomputable def keyEq (a b : AV) : Option Bool :=
  match a with
  | .int k x => match b with
    | .int k' y => br (kEq k k') (some (eqI x y)) none
    | _ => none
  | .bool x => match b with
    | .bool y => some (eqB x y)
    | _ => none
  | _ => none
noncomputable def keyOK (P : Program) (t : TypeId) (k : AV) : Bool :=
  match tyOf P t with
  | .int k1 => match k with
    | .int k2 _ => kEq k1 k2
    | _ => false
  | .bool => match k with
    | .bool _ => true
    | _ => false
  | _ => false
/-- Where a key is, and with what. -/
noncomputable def findK (k : AV) (es : List ME) : Nat → Option (Option (Nat × AV)) :=
  List.rec (fun _ => some none) (fun e _ ih i => (keyEq k e.k).bind fun b => br b (some (some (i, e.v))) (ih (Nat.succ i))) es
theorem findK_nil (k : AV) (i : Nat) : findK k [] i = some none := rfl
theorem findK_cons (k : AV) (e : ME) (es : List ME) (i : Nat) : findK k (e :: es) i = (keyEq k e.k).bind fun b => br b (some (some (i, e.v))) (findK k es (i + 1)) := rfl

/-- What the key's type is to the model. -/
inductive KeyTy (P : Program) (t : TypeId) : AV → Prop where
  | int {k : IntKind} (n : Int) : P.underlying t = some (.int k) → KeyTy P t (.int k n)
  | bool (b : Bool) : P.underlying t = some .bool → KeyTy P t (.bool b)
theorem keyOK_ty {t : TypeId} {k : AV} (h : keyOK P t k = true) : KeyTy P t k := by
  unfold keyOK at h
  split at h
  · rename_i k1 hk
    split at h
    · have := kEq_eq h; subst this; exact .int _ (tyOf_int hk)
    · cases h
  · rename_i hk
    split at h
    · exact .bool _ (tyOf_bool hk)
    · cases h
  · cases h

theorem run_checkKey {t : TypeId} {k : AV} (h : KeyTy P t k) {k' : Value} (hv : VR ρ k k') (b : Bool) (d : Nat) (w : World) : (Instr.checkKey b (d + 1) t k').run P w = .ok () w := by
  cases h with
  | int n hu => cases hv; simp [Instr.checkKey, run_underlying hu]
  | bool s hu => cases hv; simp [Instr.checkKey, run_underlying hu]

theorem find_sound {t : TypeId} {k : AV} (hk : KeyTy P t k) {k' : Value} (hv : VR ρ k k') : ∀ {es : List ME} {es' : List MapEntry} (i : Nat) {res : Option (Nat × AV)}, EntriesRep ρ es es' → findK k es i = some res →
    ∃ (d : TypeDesc) (res' : Option (Nat × Value)), P.underlying t = some d ∧ Instr.findNow d k' es' i = some res' ∧
      ((res = none ∧ res' = none) ∨ ∃ j v v', res = some (j, v) ∧ res' = some (j, v') ∧ VR ρ v v' ∧ i ≤ j ∧ ∃ x y, es[j - i]? = some x ∧ es'[j - i]? = some y ∧ x.v = v ∧ y.val = v' ∧ keyEq k x.k = some true)
  | [], _, i, res, .nil, h => by
    cases h
    have : ∃ d, P.underlying t = some d := by cases hk <;> exact ⟨_, by assumption⟩
    obtain ⟨d, hd⟩ := this
    exact ⟨d, none, hd, rfl, .inl ⟨rfl, rfl⟩⟩
  | x :: es, _, i, res, .cons (y := y) (l' := es') hx hes, h => by
    rw [findK_cons] at h
    obtain ⟨b, hb, h⟩ := bind_some h
    have step : ∃ d, P.underlying t = some d ∧ Instr.sameNow d k' y.key = some b := by
      have hxk := hx.k
      cases hk with
      | int n hu =>
        cases hv
        unfold keyEq at hb
        simp only at hb
        split at hb
        · rename_i k2 m hkx
          obtain ⟨e1, e2⟩ := br_some hb
          have := kEq_eq e1; subst this
          rw [hkx] at hxk
          generalize hyk : y.key = yk at *
          cases hxk
          cases e2
          exact ⟨_, hu, by simp [Instr.sameNow, eqI_eq]⟩
        · cases hb
      | bool s hu =>
        cases hv
        unfold keyEq at hb
        simp only at hb
        split at hb
        · rename_i m hkx
          rw [hkx] at hxk
          generalize hyk : y.key = yk at *
          cases hxk
          cases hb
          exact ⟨_, hu, by simp [Instr.sameNow, eqB_eq]⟩
        · cases hb
    obtain ⟨d, hd, hsn⟩ := step
    cases b with
    | true =>
      cases h
      exact ⟨d, some (i, y.val), hd, by simp [Instr.findNow, hsn], .inr ⟨i, x.v, y.val, rfl, rfl, hx.v, Nat.le_refl _, x, y, by simp, by simp, rfl, rfl, hb⟩⟩
    | false =>
      rw [br_false] at h
      obtain ⟨d', res', hd', hf, hr⟩ := find_sound hk hv (i + 1) hes h
      rw [hd] at hd'; cases hd'
      refine ⟨d, res', hd, by simp [Instr.findNow, hsn, hf], ?_⟩
      rcases hr with hr | ⟨j, v, v', h1, h2, h3, h4, x1, y1, h5, h6, h7⟩
      · exact .inl hr
      · have e : j - i = (j - (i + 1)) + 1 := by omega
        exact .inr ⟨j, v, v', h1, h2, h3, by omega, x1, y1, by rw [e]; simpa using h5, by rw [e]; simpa using h6, h7⟩

def zeroV (P : Program) (t : TypeId) : Option AV :=
  match P.info? t with
  | some i => match i.zero with
    | some v => some (toAV v)
    | none => none
  | none => none
theorem zeroV_sound {t : TypeId} {z : AV} (h : zeroV P t = some z) : ∃ zv, (∀ w, (zeroValue t).run P w = .ok zv w) ∧ ∀ ρ, VR ρ z zv := by
  unfold zeroV at h
  split at h
  · rename_i i hi
    split at h
    · rename_i v hv
      cases h
      exact ⟨v, fun w => by simp [zeroValue, typeInfo, hi, hv], fun ρ => toAV_VR ρ v⟩
    · cases h
  · cases h

noncomputable def Heap.mapAt (H : Heap) (b : Nat) : Option (List ME × Nat) :=
  match H.get b with
  | .map es c => some (es, c)
  | _ => none
theorem mapAt_some {b c : Nat} {es : List ME} (h : H.mapAt b = some (es, c)) : H.get b = .map es c := by
  unfold Heap.mapAt at h
  split at h
  · rename_i hb; cases h; exact hb
  · cases h
noncomputable def mapFind (H : Heap) (m : Option Nat) (k : AV) : Option (Option (Nat × AV)) :=
  match m with
  | none => some none
  | some b => (H.mapAt b).bind fun p => findK k p.1 0
noncomputable def sndO : Option (Nat × AV) → AV → AV
  | some p, _ => p.2
  | none, z => z
noncomputable def lookupK (P : Program) (H : Heap) (t : TypeId) (x k : AV) (ok : Bool) (K : AV → Option R) : Option R :=
  match P.underlying t with
  | some (.map key elem) => match x with
    | .map m => br (keyOK P key k) ((mapFind H m k).bind fun res => (zeroV P elem).bind fun z => castK (tyOf P elem) (sndO res z) fun v => K (br ok (.tuple [v, .bool res.isSome]) v)) none
    | _ => none
  | _ => none

theorem Rep.mapBlk (h : Rep P w0 ρ H w) {b : Nat} {l : Loc} {es : List ME} {c : Nat} (hl : ρ b 0 = some l) (hb : H.get b = .map es c) : ∃ es' : Array MapEntry, w.heap[l.cb]? = some (.map es' c) ∧ EntriesRep ρ es es'.toList := by
  have := h.blk b 0 l hl
  rw [hb] at this
  exact this.2

theorem run_getMap {b c : Nat} {es : Array MapEntry} (h : w.heap[b]? = some (.map es c)) : (getObj b).run P w = .ok (.map es c) w := by
  simp [getObj, Sem.run, h]

theorem mapFind_sound {t : TypeId} {m : Option Nat} {k : AV} {res : Option (Nat × AV)} (hk : KeyTy P t k) (h : mapFind H m k = some res) (hrep : Rep P w0 ρ H w) {m' k' : Value} (hm : VR ρ (.map m) m') (hv : VR ρ k k') :
    ∃ (es' : Array MapEntry) (res' : Option (Nat × Value)), ((m' = .map none ∧ es' = #[]) ∨ ∃ b c, m' = .map (some b) ∧ w.heap[b]? = some (.map es' c)) ∧ (Instr.findKey t k' es'.toList).run P w = .ok res' w ∧
      ((res = none ∧ res' = none) ∨ ∃ j v v', res = some (j, v) ∧ res' = some (j, v') ∧ VR ρ v v') := by
  unfold mapFind at h
  cases hm with
  | nilMap =>
    cases h
    obtain ⟨d, res', hd, hf, hr⟩ := find_sound hk hv 0 (res := none) (.nil (ρ := ρ)) rfl
    refine ⟨#[], res', .inl ⟨rfl, rfl⟩, by simp [Instr.findKey, run_underlying hd, hf], ?_⟩
    rcases hr with hr | ⟨j, v, v', h1, _⟩
    · exact .inl hr
    · cases h1
  | map hl =>
    simp only at h
    obtain ⟨⟨es, c⟩, hb, h⟩ := bind_some h
    obtain ⟨es', hw, he⟩ := hrep.mapBlk hl (mapAt_some hb)
    obtain ⟨d, res', hd, hf, hr⟩ := find_sound hk hv 0 he h
    refine ⟨es', res', .inr ⟨_, _, rfl, hw⟩, by simp [Instr.findKey, run_underlying hd, hf], ?_⟩
    rcases hr with hr | ⟨j, v, v', h1, h2, h3, _⟩
    · exact .inl hr
    · exact .inr ⟨j, v, v', h1, h2, h3⟩

theorem lookup_sound {t : TypeId} {x k : Operand} {ok : Bool} (h : lookupK P H t (E x) (E k) ok K = some r) : ∃ v, K v = some r ∧ ReadOp P H (.lookup t x k ok) ty E v := by
  unfold lookupK at h
  split at h
  · rename_i key elem hu
    split at h
    · rename_i m hm
      obtain ⟨hk, h⟩ := br_some h
      obtain ⟨res, hres, h⟩ := bind_some h
      obtain ⟨z, hz, h⟩ := bind_some h
      have hkt := keyOK_ty hk
      have hK : K (br ok (.tuple [sndO res z, .bool res.isSome]) (sndO res z)) = some r := castK_some (K := fun v => K (br ok (.tuple [v, .bool res.isSome]) v)) h
      refine ⟨_, hK, fun w0 ρ e w hrep hE => ?_⟩
      have hx := hE x; rw [hm] at hx
      obtain ⟨es', res', hes, hf, hr⟩ := mapFind_sound hkt hres hrep hx (hE k)
      obtain ⟨zv, hzr, hzv⟩ := zeroV_sound hz
      have hck := fun b => run_checkKey (P := P) hkt (hE k) b 9999 w
      have hrun : ∀ o : Oper, o.op = .lookup t x k ok → (execOp e o).run P w = .ok (.value (if ok then .tuple #[(match res' with | some p => p.2 | none => zv), .bool res'.isSome] else (match res' with | some p => p.2 | none => zv))) w := by
        intro o ho
        have hck1 := hck
        rcases hes with ⟨e1, e2⟩ | ⟨b, c, e1, e2⟩
        · subst e2
          cases res' with
          | none => cases ok <;> simp [execOp, ho, Instr.lookup, run_underlying hu, e1, show (10000 : Nat) = 9999 + 1 from rfl, hck, hf, hzr]
          | some p => cases ok <;> simp [execOp, ho, Instr.lookup, run_underlying hu, e1, show (10000 : Nat) = 9999 + 1 from rfl, hck, hf]
        · cases res' with
          | none => cases ok <;> simp [execOp, ho, Instr.lookup, run_underlying hu, e1, run_getMap e2, show (10000 : Nat) = 9999 + 1 from rfl, hck, hf, hzr]
          | some p => cases ok <;> simp [execOp, ho, Instr.lookup, run_underlying hu, e1, run_getMap e2, show (10000 : Nat) = 9999 + 1 from rfl, hck, hf]
      refine ⟨_, ?_, fun o ho _ => hrun o ho⟩
      rcases hr with ⟨h1, h2⟩ | ⟨j, v, v', h1, h2, h3⟩
      · subst h1; subst h2
        cases ok
        · exact hzv ρ
        · exact .tuple (.cons (hzv ρ) (.cons (.bool _) .nil))
      · subst h1; subst h2
        cases ok
        · exact h3
        · exact .tuple (.cons h3 (.cons (.bool _) .nil))
    · cases h
  · cases h

noncomputable def lenMap (H : Heap) (m : Option Nat) : Option Nat :=
  match m with
  | none => some 0
  | some b => (H.mapAt b).map fun p => p.1.length
noncomputable def lenMapK (P : Program) (H : Heap) (t : TypeId) (x : AV) (K : AV → Option R) : Option R :=
  match P.underlying t with
  | some (.map _ _) => match x with
    | .map m => (lenMap H m).bind fun n => K (.int .i64 (Int.ofNat n))
    | _ => none
  | _ => none
theorem lenMap_sound {t : TypeId} {x : Operand} (h : lenMapK P H t (E x) K = some r) : ∃ v, K v = some r ∧ ReadOp P H (.call { callee := .builtin .len, args := #[x], argTypes := #[t] }) ty E v := by
  unfold lenMapK at h
  split at h
  · rename_i key elem hu
    split at h
    · rename_i m hm
      obtain ⟨n, hn, hK⟩ := bind_some h
      refine ⟨_, hK, fun w0 ρ e w hrep hE => ?_⟩
      have hx := hE x; rw [hm] at hx
      generalize hv : e x = xv at *
      refine ⟨_, .int _ _, fun o ho _ => ?_⟩
      unfold lenMap at hn
      cases hx with
      | map hl =>
        simp only at hn
        obtain ⟨⟨es, c⟩, hb, hn⟩ := Option.map_eq_some_iff.1 hn
        obtain ⟨es', hw, he⟩ := hrep.mapBlk hl (mapAt_some hb)
        have := he.length
        subst hn
        simp [execOp, ho, hv, resolve, invoke, builtin, Builtin.len_, run_underlying hu, run_getMap hw, goInt, this]
      | nilMap =>
        cases hn
        simp [execOp, ho, hv, resolve, invoke, builtin, Builtin.len_, run_underlying hu, goInt]
    · cases h
  · cases h
end
end Go.Ab
