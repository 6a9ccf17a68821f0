/- The abstract machine, 4b: structs and arrays that are compared. -/
import Derived.Test.YtdhghfkempgejaaGreatDoorAbPure
import Derived.DeepKeys
namespace Go.Ab
section
variable {R : Type}

noncomputable def eqCellB (x y : List AV) : Option Bool :=
  match x with
  | [.bool a] => match y with
    | [.bool b] => some (eqB a b)
    | _ => none
  | _ => none
noncomputable def eqCellI (x y : List AV) : Option Bool :=
  match x with
  | [.int k a] => match y with
    | [.int k' b] => br (kEq k k') (some (eqI a b)) none
    | _ => none
  | _ => none
noncomputable def chunk (l : List AV) (off n : Nat) : List AV := (l.drop off).take n
/-- One after the other, until they differ. -/
noncomputable def eqAll {α : Type} (l : List α) (f : α → Option Bool) : Option Bool := List.rec (some true) (fun a _ ih => (f a).bind fun r => br r ih (some false)) l
noncomputable def eqV (P : Program) (d : Nat) : TypeId → List AV → List AV → Option Bool :=
  Nat.rec (fun _ _ _ => none) (fun _ ih t xs ys => match P.underlying t with
    | some .bool => eqCellB xs ys
    | some (.int _) => eqCellI xs ys
    | some (.array n e) => br (P.info? e).isSome (eqAll (List.range n) fun i => ih e (chunk xs (Nat.mul i (P.cellsOf e)) (P.cellsOf e)) (chunk ys (Nat.mul i (P.cellsOf e)) (P.cellsOf e))) none
    | some (.struct fs) => br (P.stoodInHeld t) none (eqAll fs.toList fun f => br (f.name == "_") none (ih f.type (chunk xs f.offset (P.cellsOf f.type)) (chunk ys f.offset (P.cellsOf f.type))))
    | _ => none) d
def isAggD : TypeDesc → Bool
  | .struct _ | .array _ _ => true
  | _ => false
noncomputable def aggT (P : Program) (t : TypeId) : Bool :=
  match P.underlying t with
  | some d => isAggD d
  | none => false
noncomputable def aggK (P : Program) (op : BinOp) (t : TypeId) (l m : List AV) (K : AV → Option R) : Option R :=
  br (aggT P t) (br (P.eqGuardType P.depth t) none ((eqV P 8 t l m).bind fun r => eqK op r K)) none

noncomputable def binK (P : Program) (op : BinOp) (t : TypeId) (x y : AV) (K : AV → Option R) : Option R :=
  match x with
  | .int k a => match y with
    | .int k' b => match op with
      | .shl => shiftK .shl k a b K
      | .shr => shiftK .shr k a b K
      | op => br (kEq k k') (intBinK op k a b K) none
    | _ => none
  | .str a => match y with
    | .str b => (strBin op a b).bind K
    | _ => none
  | .agg l => match y with
    | .agg m => aggK P op t l m K
    | _ => none
  | x => cmpK (tyOf P t) op x y K


section
variable {P : Program} {ρ : Ren}

theorem run_isAgg_of {t : TypeId} {d : TypeDesc} (h : P.underlying t = some d) (w : World) : (isAgg t).run P w = .ok (isAggD d) w := by
  unfold isAgg
  simp only [Sem.run_bind, run_underlying h, Result.andThen_ok]
  cases d <;> rfl

/-- A value of the type, with these cells. -/
def Shaped (P : Program) (ρ : Ren) (t : TypeId) (l : List AV) (v : Value) : Prop :=
  VRs ρ l v.cells.toList ∧ ∀ d, P.underlying t = some d → (isAggD d = true → ∃ c, v = .agg c) ∧ (isAggD d = false → ∀ c, v ≠ .agg c)

theorem eqCellB_some {x y : List AV} {r : Bool} (h : eqCellB x y = some r) : ∃ a b, x = [.bool a] ∧ y = [.bool b] ∧ r = (a == b) := by
  unfold eqCellB at h
  split at h
  · split at h
    · cases h; exact ⟨_, _, rfl, rfl, eqB_eq _ _⟩
    · cases h
  · cases h
theorem eqCellI_some {x y : List AV} {r : Bool} (h : eqCellI x y = some r) : ∃ k a b, x = [.int k a] ∧ y = [.int k b] ∧ r = (a == b) := by
  unfold eqCellI at h
  split at h
  · rename_i k a
    split at h
    · rename_i k' b
      cases e : kEq k k' with
      | false => rw [e] at h; cases h
      | true =>
        rw [e] at h
        have := kEq_eq e; subst this
        cases h
        exact ⟨k, a, b, rfl, rfl, eqI_eq _ _⟩
    · cases h
  · cases h

theorem eqV_succ {d : Nat} {t : TypeId} {xs ys : List AV} {r : Bool} (h : eqV P (d + 1) t xs ys = some r) :
    (P.underlying t = some .bool ∧ eqCellB xs ys = some r) ∨ (∃ k, P.underlying t = some (.int k) ∧ eqCellI xs ys = some r) ∨
    (∃ n e, P.underlying t = some (.array n e) ∧ (P.info? e).isSome = true ∧ eqAll (List.range n) (fun i => eqV P d e (chunk xs (i * P.cellsOf e) (P.cellsOf e)) (chunk ys (i * P.cellsOf e) (P.cellsOf e))) = some r) ∨
    (∃ fs, P.underlying t = some (.struct fs) ∧ P.stoodInHeld t = false ∧ eqAll fs.toList (fun f => br (f.name == "_") none (eqV P d f.type (chunk xs f.offset (P.cellsOf f.type)) (chunk ys f.offset (P.cellsOf f.type)))) = some r) := by
  have h' : (match P.underlying t with
    | some .bool => eqCellB xs ys
    | some (.int _) => eqCellI xs ys
    | some (.array n e) => br (P.info? e).isSome (eqAll (List.range n) fun i => eqV P d e (chunk xs (Nat.mul i (P.cellsOf e)) (P.cellsOf e)) (chunk ys (Nat.mul i (P.cellsOf e)) (P.cellsOf e))) none
    | some (.struct fs) => br (P.stoodInHeld t) none (eqAll fs.toList fun f => br (f.name == "_") none (eqV P d f.type (chunk xs f.offset (P.cellsOf f.type)) (chunk ys f.offset (P.cellsOf f.type))))
    | _ => none) = some r := h
  split at h'
  · exact .inl ⟨by assumption, h'⟩
  · exact .inr (.inl ⟨_, by assumption, h'⟩)
  · rename_i n e hu
    cases hi : (P.info? e).isSome with
    | false => rw [hi] at h'; cases h'
    | true => rw [hi] at h'; exact .inr (.inr (.inl ⟨_, _, by assumption, hi, h'⟩))
  · cases hs : P.stoodInHeld t with
    | true => rw [hs] at h'; cases h'
    | false => rw [hs] at h'; exact .inr (.inr (.inr ⟨_, by assumption, rfl, h'⟩))
  · cases h'

theorem run_partOf (w : World) {d : Nat} {e : TypeId} {l m : List AV} {c : Array Value} {off : Nat} {r : Bool} (hl : VRs ρ l c.toList) (h : eqV P d e (chunk l off (P.cellsOf e)) m = some r ∨ eqV P d e m (chunk l off (P.cellsOf e)) = some r) :
    ∃ a, (part e c off).run P w = .ok a w ∧ Shaped P ρ e (chunk l off (P.cellsOf e)) a := by
  have hch : VRs ρ (chunk l off (P.cellsOf e)) ((c.toList.drop off).take (P.cellsOf e)) := (hl.drop off).take _
  have one : ∀ (x : AV), chunk l off (P.cellsOf e) = [x] → ∃ v, c[off]? = some v ∧ VR ρ x v ∧ (c.toList.drop off).take (P.cellsOf e) = [v] := by
    intro x hx
    rw [hx] at hch
    generalize hq : (c.toList.drop off).take (P.cellsOf e) = q at hch
    cases hch with
    | cons a b =>
      rename_i v' l'
      cases b
      refine ⟨v', ?_, a, rfl⟩
      have : ((c.toList.drop off).take (P.cellsOf e))[0]? = some v' := by rw [hq]; rfl
      rw [List.getElem?_take] at this
      split at this
      · rw [List.getElem?_drop] at this; simpa using this
      · cases this
  cases d with
  | zero => rcases h with h | h <;> cases h
  | succ d =>
    have plain : ∀ desc, P.underlying e = some desc → isAggD desc = false → ((∃ b, chunk l off (P.cellsOf e) = [.bool b]) ∨ ∃ k n, chunk l off (P.cellsOf e) = [.int k n]) → ∃ a, (part e c off).run P w = .ok a w ∧ Shaped P ρ e (chunk l off (P.cellsOf e)) a := by
      intro desc hu hd hx
      have key : ∃ x, chunk l off (P.cellsOf e) = [x] ∧ ((∃ b, x = .bool b) ∨ ∃ k n, x = .int k n) := by
        rcases hx with ⟨b, hb⟩ | ⟨k, n, hb⟩
        · exact ⟨_, hb, .inl ⟨b, rfl⟩⟩
        · exact ⟨_, hb, .inr ⟨k, n, rfl⟩⟩
      obtain ⟨x, hx, hk⟩ := key
      obtain ⟨v, hv, hr, hcs⟩ := one x hx
      refine ⟨v, by simp [part, run_isAgg_of hu, hd, hv], ?_, fun d' hd' => ?_⟩
      · rw [hx]
        rcases hk with ⟨b, rfl⟩ | ⟨k, n, rfl⟩ <;> cases hr <;> exact .cons (by constructor) .nil
      · rw [hu] at hd'; cases hd'
        refine ⟨fun q => (by rw [hd] at q; cases q), fun _ c' e' => ?_⟩
        rcases hk with ⟨b, rfl⟩ | ⟨k, n, rfl⟩ <;> cases hr <;> cases e'
    have agg : ∀ desc, P.underlying e = some desc → isAggD desc = true → ∃ a, (part e c off).run P w = .ok a w ∧ Shaped P ρ e (chunk l off (P.cellsOf e)) a := by
      intro desc hu hd
      obtain ⟨i, hi⟩ := info_of_underlying hu
      refine ⟨.agg (c.extract off (off + P.cellsOf e)), by simp [part, run_isAgg_of hu, hd, run_sizeOf w hi], ?_, fun d' hd' => ?_⟩
      · have : (Value.agg (c.extract off (off + P.cellsOf e))).cells.toList = (c.toList.drop off).take (P.cellsOf e) := by
          show (c.extract off (off + P.cellsOf e)).toList = _
          rw [Array.toList_extract]
          simp [List.extract]
        rw [this]; exact hch
      · rw [hu] at hd'; cases hd'
        exact ⟨fun _ => ⟨_, rfl⟩, fun q => by rw [hd] at q; cases q⟩
    have cellB : eqCellB (chunk l off (P.cellsOf e)) m = some r ∨ eqCellB m (chunk l off (P.cellsOf e)) = some r → (∃ b, chunk l off (P.cellsOf e) = [.bool b]) ∨ ∃ k n, chunk l off (P.cellsOf e) = [.int k n] := by
      rintro (q | q)
      · obtain ⟨a, b, h1, _⟩ := eqCellB_some q; exact .inl ⟨a, h1⟩
      · obtain ⟨a, b, _, h1, _⟩ := eqCellB_some q; exact .inl ⟨b, h1⟩
    have cellI : eqCellI (chunk l off (P.cellsOf e)) m = some r ∨ eqCellI m (chunk l off (P.cellsOf e)) = some r → (∃ b, chunk l off (P.cellsOf e) = [.bool b]) ∨ ∃ k n, chunk l off (P.cellsOf e) = [.int k n] := by
      rintro (q | q)
      · obtain ⟨k, a, b, h1, _⟩ := eqCellI_some q; exact .inr ⟨k, a, h1⟩
      · obtain ⟨k, a, b, _, h1, _⟩ := eqCellI_some q; exact .inr ⟨k, b, h1⟩
    rcases h with h | h
    · rcases eqV_succ h with ⟨hu, q⟩ | ⟨k, hu, q⟩ | ⟨n, e', hu, _, _⟩ | ⟨fs, hu, _, _⟩
      · exact plain _ hu rfl (cellB (.inl q))
      · exact plain _ hu rfl (cellI (.inl q))
      · exact agg _ hu rfl
      · exact agg _ hu rfl
    · rcases eqV_succ h with ⟨hu, q⟩ | ⟨k, hu, q⟩ | ⟨n, e', hu, _, _⟩ | ⟨fs, hu, _, _⟩
      · exact plain _ hu rfl (cellB (.inr q))
      · exact plain _ hu rfl (cellI (.inr q))
      · exact agg _ hu rfl
      · exact agg _ hu rfl

theorem eqAll_cons {α : Type} {a : α} {l : List α} {f : α → Option Bool} {r : Bool} (h : eqAll (a :: l) f = some r) : ∃ b, f a = some b ∧ ((b = true ∧ eqAll l f = some r) ∨ (b = false ∧ r = false)) := by
  obtain ⟨b, h1, h2⟩ := Option.bind_eq_some_iff.1 (show ((f a).bind fun r => br r (eqAll l f) (some false)) = some r from h)
  cases b with
  | true => exact ⟨true, h1, .inl ⟨rfl, h2⟩⟩
  | false => cases h2; exact ⟨false, h1, .inr ⟨rfl, rfl⟩⟩

theorem eqV_sound : ∀ (d dd : Nat) (t : TypeId) (xs ys : List AV) (r : Bool) (x y : Value) (w : World), eqV P d t xs ys = some r → Shaped P ρ t xs x → Shaped P ρ t ys y → (Op.equalIn (dd + d) t x y).run P w = .ok r w
  | 0, _, _, _, _, _, _, _, _, h, _, _ => by cases h
  | d + 1, dd, t, xs, ys, r, x, y, w, h, hx, hy => by
    have flat : ∀ {l : List AV} {v : Value}, Shaped P ρ t l v → (∀ desc, P.underlying t = some desc → isAggD desc = false) → (∃ d, P.underlying t = some d) → v.cells = #[v] := by
      intro l v hs hd he
      obtain ⟨desc, hu⟩ := he
      have nx := (hs.2 _ hu).2 (hd _ hu)
      cases v <;> first | rfl | exact absurd rfl (nx _)
    rcases eqV_succ h with ⟨hu, q⟩ | ⟨k, hu, q⟩ | ⟨n, e, hu, hie, q⟩ | ⟨fs, hu, hst, q⟩
    · have hd : ∀ desc, P.underlying t = some desc → isAggD desc = false := fun desc q => by rw [hu] at q; cases q; rfl
      have h1 := hx.1; rw [flat hx hd ⟨_, hu⟩] at h1
      have h2 := hy.1; rw [flat hy hd ⟨_, hu⟩] at h2
      obtain ⟨a, b, e1, e2, e3⟩ := eqCellB_some q
      rw [e1] at h1; rw [e2] at h2
      cases h1 with
      | cons p1 _ => cases h2 with
        | cons p2 _ =>
          cases p1; cases p2
          rw [e3]
          exact run_equalIn_bool w (dd + d) t a b hu
    · have hd : ∀ desc, P.underlying t = some desc → isAggD desc = false := fun desc q => by rw [hu] at q; cases q; rfl
      have h1 := hx.1; rw [flat hx hd ⟨_, hu⟩] at h1
      have h2 := hy.1; rw [flat hy hd ⟨_, hu⟩] at h2
      obtain ⟨k', a, b, e1, e2, e3⟩ := eqCellI_some q
      rw [e1] at h1; rw [e2] at h2
      cases h1 with
      | cons p1 _ => cases h2 with
        | cons p2 _ =>
          cases p1; cases p2
          rw [e3]
          exact run_equalIn_int w (dd + d) t k' k a b hu
    · obtain ⟨cx, rfl⟩ := (hx.2 _ hu).1 rfl
      obtain ⟨cy, rfl⟩ := (hy.2 _ hu).1 rfl
      obtain ⟨i, hie⟩ := Option.isSome_iff_exists.1 hie
      · rw [show dd + (d + 1) = (dd + d) + 1 from rfl, run_equalIn_array w (dd + d) cx cy hu hie]
        have hxs : VRs ρ xs cx.toList := hx.1
        have hys : VRs ρ ys cy.toList := hy.1
        generalize List.range n = is at q
        clear h
        induction is generalizing r with
        | nil => cases q; simp [Op.eqItems]
        | cons j is ih =>
          obtain ⟨b, hb, hr⟩ := eqAll_cons q
          obtain ⟨a1, p1, s1⟩ := run_partOf w hxs (.inl hb)
          obtain ⟨a2, p2, s2⟩ := run_partOf w hys (.inr hb)
          have he := eqV_sound d dd e _ _ b a1 a2 w hb s1 s2
          simp only [Op.eqItems, Sem.run_bind, p1, p2, Result.andThen_ok, he]
          rcases hr with ⟨rfl, hr⟩ | ⟨rfl, rfl⟩
          · simpa using ih r hr
          · simp
    · obtain ⟨cx, rfl⟩ := (hx.2 _ hu).1 rfl
      obtain ⟨cy, rfl⟩ := (hy.2 _ hu).1 rfl
      have hfs : P.fieldsOf t = fs := by simp [Program.fieldsOf, hu]
      rw [show dd + (d + 1) = (dd + d) + 1 from rfl, run_equalIn_struct w (dd + d) t cx cy (by rw [hfs]; exact hu) hst, hfs]
      have hxs : VRs ρ xs cx.toList := hx.1
      have hys : VRs ρ ys cy.toList := hy.1
      generalize fs.toList = is at q
      clear h
      induction is generalizing r with
      | nil => cases q; simp [Op.eqFields]
      | cons f is ih =>
        obtain ⟨b, hb, hr⟩ := eqAll_cons q
        cases hn : f.name == "_" with
        | true => rw [hn] at hb; cases hb
        | false =>
          rw [hn, br_false] at hb
          obtain ⟨a1, p1, s1⟩ := run_partOf w hxs (.inl hb)
          obtain ⟨a2, p2, s2⟩ := run_partOf w hys (.inr hb)
          have he := eqV_sound d dd f.type _ _ b a1 a2 w hb s1 s2
          have hn' : f.name ≠ "_" := fun q => by rw [q] at hn; cases hn
          simp only [Op.eqFields, hn', ne_eq, not_false_eq_true, if_true, Sem.run_bind, p1, p2, Result.andThen_ok, he]
          rcases hr with ⟨rfl, hr⟩ | ⟨rfl, rfl⟩
          · simpa using ih r hr
          · simp
end
end
end Go.Ab
