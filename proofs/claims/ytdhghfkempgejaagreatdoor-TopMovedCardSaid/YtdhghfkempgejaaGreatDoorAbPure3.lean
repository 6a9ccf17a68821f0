/- The abstract machine, 6: the operations that look at no memory, together. -/
import Derived.Test.YtdhghfkempgejaaGreatDoorAbPure2
namespace Go.Ab
section
variable {R : Type} {P : Program}

noncomputable def nthL {α : Type} (l : List α) : Nat → Option α :=
  List.rec (fun _ => none) (fun a _ ih n => Nat.rec (some a) (fun n _ => ih n) n) l
theorem nthL_eq {α : Type} : ∀ (l : List α) (i : Nat), nthL l i = l[i]?
  | [], _ => rfl
  | _ :: _, 0 => rfl
  | _ :: l, i + 1 => by
    show nthL l i = _
    rw [nthL_eq l i]; rfl

noncomputable def natI (i : Int) : Option Nat := Int.rec (motive := fun _ => Option Nat) (fun n => some n) (fun _ => none) i
theorem natI_some {i : Int} {n : Nat} (h : natI i = some n) : i = n := by
  cases i with
  | ofNat m => cases h; rfl
  | negSucc m => cases h
/-- An index below a length. -/
noncomputable def idxN (i : Int) (n : Nat) : Option Nat := Int.rec (motive := fun _ => Option Nat) (fun m => br (Nat.blt m n) (some m) none) (fun _ => none) i
theorem idxN_some {i : Int} {n m : Nat} (h : idxN i n = some m) : i = m ∧ m < n := by
  cases i with
  | negSucc k => cases h
  | ofNat k =>
    have h' : br (Nat.blt k n) (some k) none = some m := h
    cases e : Nat.blt k n with
    | false => rw [e] at h'; cases h'
    | true => rw [e] at h'; cases h'; exact ⟨rfl, by rwa [Nat.blt_eq] at e⟩

theorem br_some {α : Type} {b : Bool} {x : Option α} {r : α} (h : br b x none = some r) : b = true ∧ x = some r := by
  cases b
  · cases h
  · exact ⟨rfl, h⟩
theorem ble_le {a b : Nat} (h : Nat.ble a b = true) : a ≤ b := Nat.le_of_ble_eq_true h
theorem bind_some {α β : Type} {x : Option α} {f : α → Option β} {r : β} (h : x.bind f = some r) : ∃ a, x = some a ∧ f a = some r := Option.bind_eq_some_iff.1 h

theorem Loc.at_add {l : Loc} {o : Nat} (h : l.lo ≤ o) (n : Nat) : (l.at o).add n = l.at (o + n) := by
  unfold Addr.add Loc.at
  by_cases e : n = 0
  · subst e; simp
  · rw [if_neg e]; simp only [Addr.mk.injEq, true_and, and_true]; omega

/-! ### Parts of an aggregate -/
noncomputable def partK (P : Program) (t : TypeId) (l : List AV) (off : Nat) (K : AV → Option R) : Option R :=
  match tyOf P t with
  | .agg n => K (.agg ((l.drop off).take n))
  | ty => (nthL l off).bind fun v => castK ty v K

theorem info_of_underlying {t : TypeId} {d : TypeDesc} (h : P.underlying t = some d) : ∃ i, P.info? t = some i := by
  unfold Program.underlying at h
  cases e : P.info? t with
  | none => rw [e] at h; cases h
  | some i => exact ⟨i, rfl⟩
theorem cellsOf_of {t : TypeId} {i : TypeInfo} (h : P.info? t = some i) : P.cellsOf t = i.size := by simp [Program.cellsOf, h]

theorem underlying_of_ty {t : TypeId} (h : tyOf P t ≠ .other) : ∃ d, P.underlying t = some d := by
  cases e : P.underlying t with
  | some d => exact ⟨d, rfl⟩
  | none => exact absurd (by unfold tyOf; rw [e]) h

theorem part_sound {t : TypeId} {l : List AV} {off : Nat} {K : AV → Option R} {r : R} (h : partK P t l off K = some r) (hty : tyOf P t ≠ .other) :
    ∃ v, K v = some r ∧ ∀ (ρ : Ren) (cs : Array Value) (w : World), VRs ρ l cs.toList → ∃ v', VR ρ v v' ∧ (part t cs off).run P w = .ok v' w := by
  obtain ⟨d, hu⟩ := underlying_of_ty hty
  obtain ⟨i, hi⟩ := info_of_underlying hu
  unfold partK at h
  split at h
  · rename_i n hn
    refine ⟨_, h, fun ρ cs w hl => ⟨.agg (cs.extract off (off + n)), .agg ?_, ?_⟩⟩
    · rw [Array.toList_extract]
      have := (hl.drop off).take n
      rw [List.extract_eq_take_drop]; rw [show off + n - off = n by omega]; exact this
    · have hd : isAggD d = true ∧ n = P.cellsOf t := by
        unfold tyOf at hn; rw [hu] at hn
        cases d <;> simp [isAggD] at hn ⊢ <;> exact hn.symm
      unfold part
      simp [run_isAgg_of hu, hd.1, run_sizeOf w hi, hd.2]
  · rename_i ty hn
    obtain ⟨v, hv, hk⟩ := bind_some h
    refine ⟨v, castK_some hk, fun ρ cs w hl => ?_⟩
    rw [nthL_eq] at hv
    obtain ⟨v', hv', hr⟩ := hl.get hv
    refine ⟨v', hr, ?_⟩
    have hd : isAggD d = false := by
      cases d <;> first | rfl | (exfalso; apply hn; unfold tyOf; rw [hu])
    unfold part
    rw [Array.getElem?_toList] at hv'
    simp [run_isAgg_of hu, hd, hv']

/-! ### Building -/
noncomputable def putAt (cells : List AV) (off : Nat) (vs : List AV) : List AV := cells.take off ++ vs ++ cells.drop (off + vs.length)
noncomputable def fillL (place : Nat → Option (Nat × Nat)) (cells : List AV) : List (Nat × AV) → Option (List AV)
  | [] => some cells
  | (i, v) :: rest => (place i).bind fun p => br (Nat.beq v.cells.length p.2) (br (Nat.ble (p.1 + v.cells.length) cells.length) (fillL place (putAt cells p.1 v.cells) rest) none) none

theorem putAt_VRs {ρ : Ren} {cells vs : List AV} {cs us : Array Value} {off : Nat} (h : VRs ρ cells cs.toList) (k : VRs ρ vs us.toList) (hl : off + vs.length ≤ cells.length) :
    VRs ρ (putAt cells off vs) (us.zipIdx.foldl (fun cs (c, j) => cs.setIfInBounds (off + j) c) cs).toList := by
  have key : ∀ (us : List Value) (j : Nat) (cs : Array Value), off + j + us.length ≤ cs.size →
      ((us.zipIdx j).foldl (fun cs (c, j) => cs.setIfInBounds (off + j) c) cs).toList = cs.toList.take (off + j) ++ us ++ cs.toList.drop (off + j + us.length) := by
    intro us
    induction us with
    | nil => intro j cs _; simp
    | cons u us ih =>
      intro j cs hb
      simp only [List.length_cons] at hb
      rw [List.zipIdx_cons, List.foldl_cons, ih (j + 1) _ (by simp; omega)]
      apply List.ext_getElem?
      intro i
      simp only [Array.toList_setIfInBounds, List.length_cons]
      rw [show off + (j + 1) = off + j + 1 by omega]
      simp only [List.append_assoc, List.getElem?_append, List.length_take, List.length_set, Array.length_toList, List.getElem?_take, List.getElem?_drop, List.getElem?_set]
      have e1 : min (off + j + 1) cs.size = off + j + 1 := by omega
      have e2 : min (off + j) cs.size = off + j := by omega
      rw [e1, e2]
      by_cases h1 : i < off + j
      · rw [if_pos (by omega), if_pos (by omega), if_neg (by omega), if_pos h1, if_pos h1]
      · by_cases h2 : i = off + j
        · subst h2
          rw [if_pos (by omega), if_pos (by omega), if_pos rfl, if_pos (by omega), if_neg (by omega)]
          simp
        · obtain ⟨q, rfl⟩ : ∃ q, i = off + j + 1 + q := ⟨i - (off + j + 1), by omega⟩
          rw [show off + j + 1 + q - (off + j + 1) = q by omega, show off + j + 1 + q - (off + j) = q + 1 by omega]
          rw [if_neg (show ¬ off + j + 1 + q < off + j + 1 by omega), if_neg (show ¬ off + j + 1 + q < off + j by omega)]
          simp only [List.getElem?_cons_succ, List.length_cons]
          by_cases hq : q < us.length
          · rw [if_pos hq, if_pos (show q + 1 < us.length + 1 by omega)]
          · rw [if_neg hq, if_neg (show ¬ q + 1 < us.length + 1 by omega), if_neg (by omega)]
            congr 1
            omega
  have e : (us.zipIdx.foldl (fun cs (c, j) => cs.setIfInBounds (off + j) c) cs).toList = cs.toList.take off ++ us.toList ++ cs.toList.drop (off + us.toList.length) := by
    have hz : us.zipIdx = (us.toList.zipIdx 0).toArray := by
      apply Array.ext'
      simp [Array.toList_zipIdx]
    rw [hz, List.foldl_toArray]
    have := key us.toList 0 cs (by have := h.length; have := k.length; simp only [Array.length_toList] at *; omega)
    simpa using this
  rw [e]
  unfold putAt
  have hk := k.length
  rw [hk]
  exact ((h.take off).append k).append (h.drop _)

theorem VR.cells {ρ : Ren} {v : AV} {v' : Value} (h : VR ρ v v') (hb : v ≠ .bad) : VRs ρ v.cells v'.cells.toList := by
  cases h <;> first | exact absurd rfl hb | (exact .cons (by first | exact .bool _ | exact .int _ _ | exact .str _ | exact .nilPtr | (exact .ptr (by assumption) (by assumption)) | exact .nilSl _ _ | (exact .sl _ _ (by assumption) (by assumption)) | (exact .slU _ _ _ (by assumption) (by assumption) (by assumption) (by assumption)) | (exact .slE _ _ (by assumption) (by assumption) (by assumption)) | exact .nilMap | (exact .map (by assumption)) | (exact .fn (by assumption) (by assumption)) | exact .nilFn | (exact .iface (by assumption)) | exact .nilIface | (exact .tuple (by assumption))) .nil) | assumption

def notBad : AV → Bool
  | .bad => false
  | _ => true
theorem notBad_ne {v : AV} (h : notBad v = true) : v ≠ .bad := by rintro rfl; cases h

inductive PartsRep (ρ : Ren) : List (Nat × AV) → List (Nat × Value) → Prop where
  | nil : PartsRep ρ [] []
  | cons {i : Nat} {v : AV} {v' : Value} {l : List (Nat × AV)} {l' : List (Nat × Value)} : VR ρ v v' → PartsRep ρ l l' → PartsRep ρ ((i, v) :: l) ((i, v') :: l')

theorem fill_sound {place : Nat → Option (Nat × Nat)} {ρ : Ren} : ∀ {parts : List (Nat × AV)} {parts' : List (Nat × Value)} {cells out : List AV} {cs : Array Value},
    PartsRep ρ parts parts' → (∀ p ∈ parts, notBad p.2 = true) → VRs ρ cells cs.toList → fillL place cells parts = some out → ∃ cs', Instr.fill place cs parts' = some cs' ∧ VRs ρ out cs'.toList
  | [], _, _, _, cs, .nil, _, hc, h => by cases h; exact ⟨cs, rfl, hc⟩
  | (i, v) :: rest, _, cells, out, cs, .cons (v' := v') hv hr, hb, hc, h => by
    unfold fillL at h
    obtain ⟨p, hp, h⟩ := bind_some h
    obtain ⟨h1, h⟩ := br_some h
    obtain ⟨h2, h⟩ := br_some h
    have e1 := Nat.eq_of_beq_eq_true h1
    have e2 := ble_le h2
    have hcv := hv.cells (notBad_ne (hb (i, v) (by simp)))
    have hlen : v'.cells.size = p.2 := by rw [← e1, hcv.length]; simp
    have hcl : cells.length = cs.size := by rw [hc.length]; simp
    have hvl : v.cells.length = v'.cells.size := by rw [hcv.length]; simp
    obtain ⟨cs', hf, ho⟩ := fill_sound hr (fun q hq => hb q (by simp [hq])) (putAt_VRs hc hcv e2) h
    refine ⟨cs', ?_, ho⟩
    unfold Instr.fill
    rw [hp]
    simp only
    rw [if_neg]
    · exact hf
    · rw [hvl, hcl] at e2
      simp [hlen]
      omega

def zeroL (P : Program) (t : TypeId) : Option (List AV) :=
  match P.info? t with
  | some i => match i.zero with
    | some v => match toAV v with
      | .bad => none
      | a => some a.cells
    | none => none
  | none => none
def fieldPl (P : Program) (fs : Array Field) (i : Nat) : Option (Nat × Nat) :=
  match fs[i]? with
  | some f => match P.info? f.type with
    | some inf => some (f.offset, inf.size)
    | none => none
  | none => none
noncomputable def buildL (P : Program) (t : TypeId) (parts : List (Nat × AV)) : Option (List AV) :=
  (zeroL P t).bind fun z => br (parts.all fun p => notBad p.2)
    (match P.underlying t with
     | some (.struct fs) => br (fs.toList.all fun f => (P.info? f.type).isSome) (fillL (fieldPl P fs) z parts) none
     | some (.array _ e) => match P.info? e with
       | some i => fillL (fun j => some (j * i.size, i.size)) z parts
       | none => none
     | _ => none) none

theorem zeroL_sound {t : TypeId} {z : List AV} (h : zeroL P t = some z) : ∃ zv, (∀ w, (zeroValue t).run P w = .ok zv w) ∧ ∀ ρ, VRs ρ z zv.cells.toList := by
  unfold zeroL at h
  split at h
  · rename_i i hi
    split at h
    · rename_i v hv
      split at h
      · cases h
      · rename_i a hb
        cases h
        refine ⟨v, fun w => by simp [zeroValue, typeInfo, hi, hv], fun ρ => (toAV_VR ρ v).cells fun e => hb e⟩
    · cases h
  · cases h

theorem mapM_fields {w : World} : ∀ (fs : List Field), (fs.all fun f => (P.info? f.type).isSome) = true →
    (fs.mapM fun f => (do pure (f.offset, ← sizeOf f.type) : Sem (Nat × Nat))).run P w = .ok (fs.map fun f => (f.offset, P.cellsOf f.type)) w
  | [], _ => rfl
  | f :: fs, h => by
    simp only [List.all_cons, Bool.and_eq_true] at h
    obtain ⟨i, hi⟩ := Option.isSome_iff_exists.1 h.1
    rw [List.mapM_cons]
    simp only [Sem.run_bind, run_sizeOf w hi, Result.andThen_ok, Sem.run_pure, mapM_fields fs h.2, List.map_cons]

theorem build_sound {t : TypeId} {parts : List (Nat × AV)} {out : List AV} (h : buildL P t parts = some out) :
    ∀ (ρ : Ren) (parts' : Array (Nat × Value)) (w : World), PartsRep ρ parts parts'.toList → ∃ v', VR ρ (.agg out) v' ∧ (Instr.build t parts').run P w = .ok v' w := by
  intro ρ parts' w hp
  unfold buildL at h
  obtain ⟨z, hz, h⟩ := bind_some h
  obtain ⟨hb, h⟩ := br_some h
  have hb' : ∀ p ∈ parts, notBad p.2 = true := by simpa using hb
  obtain ⟨zv, hzr, hzv⟩ := zeroL_sound hz
  split at h
  · rename_i fs hu
    obtain ⟨hfs, h⟩ := br_some h
    have hm := mapM_fields (P := P) (w := w) fs.toList hfs
    have hpl : ∀ j, ((fs.toList.map fun f => (f.offset, P.cellsOf f.type)).toArray)[j]? = fieldPl P fs j := by
      intro j
      unfold fieldPl
      simp only [List.getElem?_toArray, List.getElem?_map, Array.getElem?_toList]
      cases e : fs[j]? with
      | none => rfl
      | some f =>
        have hf : f ∈ fs.toList := by
          rw [← Array.getElem?_toList] at e
          exact List.mem_of_getElem? e
        have := List.all_eq_true.1 hfs f hf
        obtain ⟨i, hi⟩ := Option.isSome_iff_exists.1 this
        simp [hi, cellsOf_of hi]
    obtain ⟨cs', hf, ho⟩ := fill_sound hp hb' (hzv ρ) h
    refine ⟨.agg cs', .agg ho, ?_⟩
    have hf' : Instr.fill (((fs.toList.map fun f => (f.offset, P.cellsOf f.type)).toArray)[·]?) zv.cells parts'.toList = some cs' := by
      rw [← hf]; congr 1; funext j; exact hpl j
    unfold Instr.build
    simp only [Sem.run_bind, hzr, Result.andThen_ok, run_underlying hu]
    have hm' : (fs.mapM fun f => (do pure (f.offset, ← sizeOf f.type) : Sem (Nat × Nat))).run P w = .ok (fs.toList.map fun f => (f.offset, P.cellsOf f.type)).toArray w := by
      rw [← Array.toArray_toList (xs := fs), List.mapM_toArray]
      simp only [Sem.run_map]
      rw [Array.toArray_toList] at *
      simp only [hm, Result.andThen_ok]
    simp only [hm', Result.andThen_ok]
    simp only [hf']
    rfl
  · rename_i n e hu
    split at h
    · rename_i i hi
      obtain ⟨cs', hf, ho⟩ := fill_sound hp hb' (hzv ρ) h
      refine ⟨.agg cs', .agg ho, ?_⟩
      unfold Instr.build
      simp only [Sem.run_bind, hzr, Result.andThen_ok, run_underlying hu, run_sizeOf w hi, cellsOf_of hi]
      simp only [hf]
      rfl
    · cases h
  · cases h
end
end Go.Ab
