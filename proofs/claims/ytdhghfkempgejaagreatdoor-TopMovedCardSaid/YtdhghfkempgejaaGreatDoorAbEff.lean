/- The abstract machine, 17: append, and writing maps, as operations. -/
import Derived.Test.YtdhghfkempgejaaGreatDoorAbAppend2
namespace Go.Ab
open Go.RowKit
section
variable {R : Type} {P : Program} {E : Operand → AV} {ty : TypeId} {K : AV → Heap → Option R} {r : R} {w0 : World} {ρ ρ' : Ren} {H H' : Heap} {w w' : World}

theorem append_sound {ts : Array TypeId} {args : Array Operand} (h : appendK P ts.toList (args.toList.map E) H K = some r) :
    ∃ v H', K v H' = some r ∧ EffOp P H (.call { callee := .builtin .append, args := args, argTypes := ts }) ty E v H' := by
  unfold appendK at h
  split at h
  · rename_i t u hts
    obtain ⟨htu, h⟩ := br_some h
    have htu' := Nat.eq_of_beq_eq_true htu
    split at h
    · rename_i e hu
      split at h
      · rename_i i hi
        split at h
        · rename_i zv hz
          obtain ⟨hpos, h⟩ := br_some h
          obtain ⟨hzs, h⟩ := br_some h
          have hpos' := blt_lt hpos
          have hzs' := Nat.eq_of_beq_eq_true hzs
          split at h
          · rename_i s x hargs
            obtain ⟨⟨s', H'⟩, hap, h⟩ := bind_some h
            refine ⟨_, _, h, fun w0 ρ ev w hrep hE => ?_⟩
            obtain ⟨args⟩ := args
            obtain ⟨ts⟩ := ts
            simp only at hts hargs
            subst hts
            rcases args with _ | ⟨o1, _ | ⟨o2, _ | ⟨o3, l3⟩⟩⟩ <;> simp only [List.map_cons, List.map_nil, List.cons.injEq, and_true, reduceCtorEq, and_false] at hargs
            obtain ⟨e1, e2⟩ := hargs
            have h1 := hE o1; rw [e1] at h1
            have h2 := hE o2; rw [e2] at h2
            obtain ⟨ρ', v', w', g1, g2, g3, g4⟩ := append_inv (tt := ty) hu hi hz hpos' hzs' hap hrep h1 h2
            refine ⟨ρ', v', w', g1, g2, g3, fun o ho hty => .inl ?_⟩
            subst htu'
            simp only [execOp, ho, resolve, Sem.run_bind, Sem.run_pure, Result.andThen_ok, invoke, builtin, List.map_toArray, List.map_cons, List.map_nil, hty, g4]
          · cases h
        · cases h
      · cases h
    · cases h
  · cases h

/-! ### Maps that are written -/
noncomputable def setE (es : List ME) (f : ME → ME) : Nat → List ME :=
  List.rec (fun _ => []) (fun e l ih i => Nat.rec (f e :: l) (fun i _ => e :: ih i) i) es
theorem setE_zero (e : ME) (l : List ME) (f : ME → ME) : setE (e :: l) f 0 = f e :: l := rfl
theorem setE_succ (e : ME) (l : List ME) (f : ME → ME) (i : Nat) : setE (e :: l) f (i + 1) = e :: setE l f i := rfl

theorem setE_rep {f : ME → ME} {g : MapEntry → MapEntry} : ∀ {es : List ME} {es' : List MapEntry} {i : Nat}, EntriesRep ρ es es' → (∀ x y, es[i]? = some x → es'[i]? = some y → EntryRep ρ x y → EntryRep ρ (f x) (g y)) →
    EntriesRep ρ (setE es f i) (es'.modify i g)
  | [], _, i, .nil, _ => by cases i <;> exact .nil
  | x :: es, _, 0, .cons (y := y) (l' := es') a b, h => by
    rw [setE_zero, List.modify_zero_cons]
    exact .cons (h x y rfl rfl a) b
  | x :: es, _, i + 1, .cons (y := y) (l' := es') a b, h => by
    rw [setE_succ, List.modify_succ_cons]
    exact .cons a (setE_rep b fun x1 y1 p q => h x1 y1 (by simpa using p) (by simpa using q))

theorem Rep.mapPut (h : Rep P w0 ρ H w) {b c c2 : Nat} {l : Loc} {es es2 : List ME} {es2' : Array MapEntry} (hl : ρ b 0 = some l) (hb : H.get b = .map es c) (he : EntriesRep ρ es2 es2'.toList) :
    Rep P w0 ρ (H.put b (.map es2 c2)) { w with heap := w.heap.setIfInBounds l.cb (.map es2' c2) } ∧ Ext ρ H ρ (H.put b (.map es2 c2)) := by
  refine ⟨?_, Ext.change hl _ (Ren.le_refl ρ) (fun _ _ _ => rfl)⟩
  have hlt := (h.dom b 0 l hl).2
  refine h.change b _ (Ren.le_refl ρ) (fun _ _ _ => rfl) (h.dom b 0 l hl).1 (by rw [hb]; rfl) rfl rfl rfl (by simp) ?_ ?_ ?_ ?_
  · intro k _ hk
    show (w.heap.setIfInBounds l.cb _)[k]? = _
    rw [Array.getElem?_setIfInBounds_ne (fun e => hk 0 l hl e)]
  · intro g l' hl'
    obtain ⟨h0, es', hw, _⟩ := by have q := h.blk b g l' hl'; rw [hb] at q; exact q
    subst h0
    rw [hl] at hl'; cases hl'
    exact ⟨by simpa using hlt, ⟨rfl, es2', by simp [hlt], he⟩, .inl ⟨0, l, hl, rfl⟩⟩
  · intro g l1 g' l2 e1 e2 hcb
    exact h.al b g l1 g' l2 e1 e2 hcb
  · intro g l1 g0 e1 hx
    obtain ⟨_, _, _, _, hx⟩ := hx
    cases hx

theorem run_setMap {b c c2 : Nat} {es es2 : Array MapEntry} (h : w.heap[b]? = some (.map es c)) : (setObj b (.map es2 c2)).run P w = .ok () { w with heap := w.heap.setIfInBounds b (.map es2 c2) } := by
  simp [setObj, Sem.run, h]

theorem keyStays {t : TypeId} {k k2 : AV} (hk : KeyTy P t k) (he : keyEq k k2 = some true) {k' k2' : Value} (hv : VR ρ k k') (hv2 : VR ρ k2 k2') : (Instr.keyThatStays k2' k').run P w = .ok k' w := by
  have hb : Instr.sameBits (9999 + 1) k2' k' = true := by
    cases hk with
    | int n hu =>
      unfold keyEq at he
      simp only at he
      split at he
      · obtain ⟨e1, e2⟩ := br_some he
        have := kEq_eq e1; subst this
        cases hv; cases hv2
        rw [eqI_eq] at e2
        have e3 := beq_iff_eq.1 (Option.some.inj e2)
        subst e3
        simp [Instr.sameBits]
      · cases he
    | bool s hu =>
      unfold keyEq at he
      simp only at he
      split at he
      · cases hv; cases hv2
        have e3 := Option.some.inj he
        rw [eqB_eq, beq_iff_eq] at e3
        subst e3
        simp [Instr.sameBits]
      · cases he
  unfold Instr.keyThatStays
  rw [show (10000 : Nat) = 9999 + 1 from rfl, hb]
  rfl

/-- A map after a store: where the key was found, or at the end. -/
noncomputable def putE (es : List ME) (c : Nat) (k v : AV) (res : Option (Nat × AV)) : Blk :=
  match res with
  | some p => .map (setE es (fun e => ⟨k, v, e.born⟩) p.1) c
  | none => .map (es ++ [⟨k, v, c⟩]) (Nat.succ c)
noncomputable def mapUpdateK (P : Program) (t : TypeId) (m k v : AV) (H : Heap) (K : AV → Heap → Option R) : Option R :=
  match P.underlying t with
  | some (.map key _) => match m with
    | .map o => o.bind fun b => (H.mapAt b).bind fun p => br (keyOK P key k) ((findK k p.1 0).bind fun res => K (.tuple []) (H.put b (putE p.1 p.2 k v res))) none
    | _ => none
  | _ => none

theorem mapUpdate_run {t : TypeId} {m k v : AV} (h : mapUpdateK P t m k v H K = some r) : ∃ u H', K u H' = some r ∧ u = .tuple [] ∧ ∀ (w0 : World) (ρ : Ren) (m' k' v' : Value) (w : World), Rep P w0 ρ H w → VR ρ m m' → VR ρ k k' → VR ρ v v' →
    ∃ w', Ext ρ H ρ H' ∧ Rep P w0 ρ H' w' ∧ (Instr.mapUpdate t m' k' v').run P w = .ok () w' := by
  unfold mapUpdateK at h
  split at h
  · rename_i key el hu
    split at h
    · rename_i ob
      obtain ⟨b, hob, g1⟩ := bind_some h
      subst hob
      · obtain ⟨⟨es, c⟩, hb1, g2⟩ := bind_some g1
        have hb := mapAt_some hb1
        obtain ⟨hk, g3⟩ := br_some g2
        obtain ⟨res, hres, g4⟩ := bind_some g3
        have hkt := keyOK_ty hk
        refine ⟨_, _, g4, rfl, fun w0 ρ m' k' v' w hrep hm hkv hvv => ?_⟩
        cases hm with
        | map hl =>
          rename_i l
          obtain ⟨es', hw, he⟩ := hrep.mapBlk hl hb
          obtain ⟨d, res', hd, hf, hr⟩ := find_sound hkt hkv 0 he hres
          have hck := run_checkKey (P := P) hkt hkv false 9999 w
          have hfk : (Instr.findKey key k' es'.toList).run P w = .ok res' w := by simp [Instr.findKey, run_underlying hd, hf]
          rcases hr with ⟨e1, e2⟩ | ⟨j, u, u', e1, e2, e3, _, x, y, e5, e6, e7, e8, e9⟩
          · subst e1; subst e2
            have hput := hrep.mapPut (c2 := Nat.succ c) (es2 := es ++ [⟨k, v, c⟩]) (es2' := es'.push { key := k', val := v', born := c }) hl hb (by rw [Array.toList_push]; exact EntriesRep.append (.cons ⟨hkv, hvv, rfl⟩ .nil) he)
            refine ⟨_, hput.2, hput.1, ?_⟩
            simp only [Instr.mapUpdate, Sem.run_bind, run_underlying hu, Result.andThen_ok, run_getMap hw, show (10000 : Nat) = 9999 + 1 from rfl, hck, hfk, run_setMap hw]
          · subst e1; subst e2
            simp only [Nat.sub_zero] at e5 e6
            have hput := hrep.mapPut (c2 := c) (es2 := setE es (fun e => ⟨k, v, e.born⟩) j) (es2' := es'.modify j fun e => { e with key := k', val := v' }) hl hb (by
              rw [Array.toList_modify]
              exact setE_rep he fun x1 y1 _ _ hxy => ⟨hkv, hvv, hxy.born⟩)
            refine ⟨_, hput.2, hput.1, ?_⟩
            have hxr : VR ρ x.k y.key := by
              have key : ∀ {es : List ME} {es' : List MapEntry} {j : Nat}, EntriesRep ρ es es' → es[j]? = some x → es'[j]? = some y → EntryRep ρ x y := by
                intro es es' j he
                induction he generalizing j with
                | nil => intro q; simp at q
                | cons a b ih =>
                  cases j with
                  | zero => intro q1 q2; simp at q1 q2; subst q1; subst q2; exact a
                  | succ j => intro q1 q2; exact ih (by simpa using q1) (by simpa using q2)
              exact (key he e5 e6).k
            have hks := keyStays (w := w) hkt e9 hkv hxr
            rw [Array.getElem?_toList] at e6
            simp only [Instr.mapUpdate, Sem.run_bind, run_underlying hu, Result.andThen_ok, run_getMap hw, show (10000 : Nat) = 9999 + 1 from rfl, hck, hfk, e6, Option.map_some, Option.getD_some, hks, run_setMap hw]
    · cases h
  · cases h

theorem mapUpdate_sound {t : TypeId} {m k v : Operand} (h : mapUpdateK P t (E m) (E k) (E v) H K = some r) : ∃ u H', K u H' = some r ∧ EffOp P H (.mapUpdate t m k v) ty E u H' := by
  obtain ⟨u, H', hK, hu, hs⟩ := mapUpdate_run h
  refine ⟨u, H', hK, fun w0 ρ e w hrep hE => ?_⟩
  obtain ⟨w', h1, h2, h3⟩ := hs w0 ρ _ _ _ w hrep (hE m) (hE k) (hE v)
  exact ⟨ρ, undef, w', h1, h2, by rw [hu]; exact .tuple .nil, fun o ho _ => .inr ⟨by simp [execOp, ho, h3], rfl⟩⟩
theorem insert_sound {t : TypeId} {m k v : Operand} (h : mapUpdateK P t (E m) (E k) (E v) H K = some r) : ∃ u H', K u H' = some r ∧ EffOp P H (.insert t m k v) ty E u H' := by
  obtain ⟨u, H', hK, hu, hs⟩ := mapUpdate_run h
  refine ⟨u, H', hK, fun w0 ρ e w hrep hE => ?_⟩
  obtain ⟨w', h1, h2, h3⟩ := hs w0 ρ _ _ _ w hrep (hE m) (hE k) (hE v)
  exact ⟨ρ, undef, w', h1, h2, by rw [hu]; exact .tuple .nil, fun o ho _ => .inr ⟨by simp [execOp, ho, h3], rfl⟩⟩
end
end Go.Ab
