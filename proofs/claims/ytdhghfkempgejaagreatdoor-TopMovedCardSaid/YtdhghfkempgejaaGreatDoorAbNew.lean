/- The abstract machine, 13: operations that make memory. -/
import Derived.Test.YtdhghfkempgejaaGreatDoorAbMap
namespace Go.Ab
open Go.RowKit
section
variable {R : Type} {P : Program} {E : Operand → AV} {ty : TypeId} {K : AV → Heap → Option R} {r : R} {w0 : World} {ρ : Ren} {H : Heap} {w : World}

/-- The value and the heap that the operation gives wherever the heap is represented. -/
def EffOp (P : Program) (H : Heap) (op : Op) (ty : TypeId) (E : Operand → AV) (v : AV) (H' : Heap) : Prop :=
  ∀ (w0 : World) (ρ : Ren) (e : Operand → Value) (w : World), Rep P w0 ρ H w → (∀ x, VR ρ (E x) (e x)) → ∃ ρ' v' w', Ext ρ H ρ' H' ∧ Rep P w0 ρ' H' w' ∧ VR ρ' v v' ∧
    ∀ o : Oper, o.op = op → o.type = ty → (execOp e o).run P w = .ok (.value v') w' ∨ ((execOp e o).run P w = .ok .skip w' ∧ v' = undef)

/-- A block of 'H'' that 'ρ' does not know, where 'x' lies. -/
structure Spot (ρ : Ren) (H : Heap) (b : Nat) (x : Blk) (H' : Heap) : Prop where
  free : ∀ g, ρ b g = none
  get : ∀ c g l, ρ c g = some l → H'.get c = H.get c
  size : H.size ≤ H'.size
  lt : b < H'.size
  is : H'.get b = x
theorem Rep.spot (h : Rep P w0 ρ H w) (x : Blk) : Spot ρ H H.size x (H.push x) :=
  ⟨h.fresh, fun c g l e => Heap.get_push_old H x (h.dom c g l e).1, by simp, by simp, Heap.get_push_new H x⟩
theorem Spot.ext {x : Blk} (h : Rep P w0 ρ H w) (l : Loc) : Ext ρ H (ρ.set H.size 0 l) (H.push x) :=
  ⟨Ren.le_set ρ l (h.fresh 0), by simp, fun b hb hn => ⟨fun g => by rw [Ren.set_other ρ l (.inl (by omega))]; exact hn g, Heap.get_push_old H x hb⟩⟩

/-- The operation makes a block 'x', which is known as 'b' from then on. -/
def NewOp (P : Program) (op : Op) (ty : TypeId) (E : Operand → AV) (b : Nat) (v : AV) (x : Blk) : Prop :=
  ∀ (w0 : World) (ρ : Ren) (e : Operand → Value) (w : World) (H H' : Heap), Rep P w0 ρ H w → Spot ρ H b x H' → (∀ x, VR ρ (E x) (e x)) → ∃ l v' w', Rep P w0 (ρ.set b 0 l) H' w' ∧ VR (ρ.set b 0 l) v v' ∧
    ∀ o : Oper, o.op = op → o.type = ty → (execOp e o).run P w = .ok (.value v') w'
theorem NewOp.eff {op : Op} {v : AV} {x : Blk} (h : NewOp P op ty E H.size v x) : EffOp P H op ty E v (H.push x) := by
  intro w0 ρ e w hrep hE
  obtain ⟨l, v', w', h1, h2, h3⟩ := h w0 ρ e w H (H.push x) hrep (hrep.spot x) hE
  exact ⟨_, v', w', Spot.ext hrep l, h1, h2, fun o ho ht => .inl (h3 o ho ht)⟩

theorem Rep.newCells (h : Rep P w0 ρ H w) {b : Nat} {H' : Heap} {e : TypeId} {data : List AV} (hs : Spot ρ H b (.cells e 0 data [] false) H') (cells : Array Value) (hd : VRs ρ data (cells.toList.take data.length)) :
    Rep P w0 (ρ.set b 0 ⟨w.heap.size, 0, 0, cells.size⟩) H' (w.alloc (.cells cells e)) := by
  refine h.new b _ _ hs.free hs.get hs.size hs.lt rfl (by rw [hs.is]; rfl) ?_
  rw [hs.is]
  intro n hn
  rw [Blk.len_cells, if_pos rfl] at hn
  cases hn
  have hl : data.length ≤ cells.size := by have := hd.length; simp at this; omega
  refine ⟨Nat.le_refl _, by simpa using hl, cells, (0, 0), ⟨_, heap_alloc_new w _, fun _ => rfl⟩, fun _ => rfl, rfl, fun o _ ho => ?_⟩
  obtain ⟨v, hv⟩ : ∃ v, data[o]? = some v := ⟨data[o], List.getElem?_eq_getElem ho⟩
  obtain ⟨v', hv', hr⟩ := hd.get hv
  rw [List.getElem?_take, if_pos ho, Array.getElem?_toList] at hv'
  exact ⟨v, v', hv, by simpa using hv', hr.mono (Ren.le_set ρ _ (hs.free 0))⟩

theorem newPtr (ρ : Ren) (b : Nat) (w : World) (size : Nat) : VR (ρ.set b 0 ⟨w.heap.size, 0, 0, size⟩) (.ptr (some ⟨b, 0, 0⟩)) (.pointer (some ⟨w.heap.size, 0, none⟩)) :=
  VR.ptr (a := ⟨b, 0, 0⟩) (l := ⟨w.heap.size, 0, 0, size⟩) (Ren.set_same ρ _ _ _) (Nat.le_refl _)

noncomputable def newK (e : TypeId) (data : List AV) (H : Heap) (K : AV → Heap → Option R) : Option R :=
  K (.ptr (some ⟨H.size, 0, 0⟩)) (H.push (.cells e 0 data [] false))
noncomputable def allocK (P : Program) (e : TypeId) (H : Heap) (K : AV → Heap → Option R) : Option R :=
  match zeroL P e with
  | some z => newK e z H K
  | none => none
noncomputable def boxK (e : TypeId) (x : AV) (H : Heap) (K : AV → Heap → Option R) : Option R :=
  br (notBad x) (newK e x.cells H K) none

theorem alloc_new {e : TypeId} (h : allocK P e H K = some r) : ∃ v x, K v (H.push x) = some r ∧ NewOp P (.alloc e) ty E H.size v x := by
  unfold allocK at h
  split at h
  · rename_i z hz
    refine ⟨_, _, h, fun w0 ρ ev w G G' hrep hsp hE => ?_⟩
    obtain ⟨zv, hzr, hzv⟩ := zeroL_sound hz
    have hlen := (hzv ρ).length
    have hh := hrep.newCells hsp zv.cells (by rw [List.take_of_length_le (by rw [hlen]; exact Nat.le_refl _)]; exact hzv ρ)
    refine ⟨_, _, _, hh, newPtr ρ _ w zv.cells.size, fun o ho _ => ?_⟩
    simp [execOp, ho, Instr.alloc, hzr, newVar, newRow]
  · cases h

theorem box_new {e : TypeId} {x : Operand} (h : boxK e (E x) H K = some r) : ∃ v y, K v (H.push y) = some r ∧ NewOp P (.box e x) ty E H.size v y := by
  unfold boxK at h
  obtain ⟨hb, h⟩ := br_some h
  refine ⟨_, _, h, fun w0 ρ ev w G G' hrep hsp hE => ?_⟩
  have hc := (hE x).cells (notBad_ne hb)
  have hlen := hc.length
  have hh := hrep.newCells hsp (ev x).cells (by rw [List.take_of_length_le (by rw [hlen]; exact Nat.le_refl _)]; exact hc)
  refine ⟨_, _, _, hh, newPtr ρ _ w _, fun o ho _ => ?_⟩
  simp [execOp, ho, Instr.box, newVar, newRow]

/-! Rows -/
noncomputable def repL (z : List AV) (n : Nat) : List AV := Nat.rec [] (fun _ ih => z ++ ih) n
theorem repL_length (z : List AV) (n : Nat) : (repL z n).length = n * z.length := by
  induction n with
  | zero => show ([] : List AV).length = 0 * z.length; simp
  | succ n ih => show (z ++ repL z n).length = _; rw [List.length_append, ih, Nat.succ_mul]; omega
theorem repL_get (z : List AV) : ∀ (n i : Nat), i < n * z.length → (repL z n)[i]? = z[i % z.length]?
  | 0, i, h => by simp at h
  | n + 1, i, h => by
    show (z ++ repL z n)[i]? = _
    rw [List.getElem?_append]
    split
    · rename_i hlt; rw [Nat.mod_eq_of_lt hlt]
    · rename_i hge
      rw [Nat.succ_mul] at h
      rw [repL_get z n (i - z.length) (by omega)]
      congr 1
      have : i = i - z.length + z.length := by omega
      conv => rhs; rw [this]
      rw [Nat.add_mod_right]
theorem rep_VRs {z : List AV} {cs : Array Value} (hz : ∀ ρ, VRs ρ z cs.toList) (n m : Nat) (hm : m = n * cs.size) (ρ : Ren) : VRs ρ (repL z n) ((Array.range m).map (cs[· % cs.size]!)).toList := by
  have hl := (hz ρ).length
  simp only [Array.length_toList] at hl
  refine VRs.of_get (by rw [repL_length, hl]; simp [hm]) fun i v v' e1 e2 => ?_
  have hi : i < n * z.length := by rw [← repL_length]; exact (List.getElem?_eq_some_iff.1 e1).1
  rw [repL_get z n i hi] at e1
  obtain ⟨u, hu, hr⟩ := (hz ρ).get e1
  simp only [Array.toList_map, Array.toList_range, List.getElem?_map] at e2
  rw [List.getElem?_range (by rw [hm, ← hl]; exact hi)] at e2
  simp only [Option.map_some, Option.some.injEq] at e2
  subst e2
  rw [Array.getElem?_toList] at hu
  rw [hl] at hu
  have : cs[i % cs.size]! = u := by
    rw [Array.getElem!_eq_getD, Array.getD_eq_getD_getElem?, hu]; rfl
  rw [this]; exact hr

noncomputable def buildSliceK (P : Program) (t : TypeId) (len : Nat) (parts : List (Nat × AV)) (H : Heap) (K : AV → Heap → Option R) : Option R :=
  match P.underlying t with
  | some (.slice e) => match P.info? e with
    | some i => br (Nat.ble (len * i.size) 16777216) (br (parts.all fun p => notBad p.2)
        ((if len * i.size = 0 then fillL (fun j => some (j * i.size, i.size)) [] parts
          else (zeroL P e).bind fun z => br (Nat.beq z.length i.size) (fillL (fun j => some (j * i.size, i.size)) (repL z len) parts) none).bind fun data =>
          K (.sl ⟨some ⟨H.size, 0, 0⟩, len, .known len⟩) (H.push (.cells e 0 data [] false))) none) none
    | none => none
  | _ => none

theorem buildSlice_new {t : TypeId} {len : Nat} {parts : Array (Nat × Operand)} (h : buildSliceK P t len (parts.toList.map fun p => (p.1, E p.2)) H K = some r) :
    ∃ v x, K v (H.push x) = some r ∧ NewOp P (.buildSlice t len parts) ty E H.size v x := by
  unfold buildSliceK at h
  split at h
  · rename_i e hu
    split at h
    · rename_i i hi
      obtain ⟨h1, h⟩ := br_some h
      obtain ⟨hb, h⟩ := br_some h
      obtain ⟨data, hdata, h⟩ := bind_some h
      have hcap := ble_le h1
      have hb' : ∀ p ∈ (parts.toList.map fun p => (p.1, E p.2)), notBad p.2 = true := by
        intro p hp; exact List.all_eq_true.1 hb p hp
      refine ⟨_, _, h, fun w0 ρ ev w G G' hrep hsp hE => ?_⟩
      have key : ∀ q : List (Nat × Operand), PartsRep ρ (q.map fun p => (p.1, E p.2)) (q.map fun p => (p.1, ev p.2)) := by
        intro q
        induction q with
        | nil => exact .nil
        | cons x l ih => exact .cons (hE x.2) ih
      have hp : PartsRep ρ (parts.toList.map fun p => (p.1, E p.2)) (parts.map fun p => (p.1, ev p.2)).toList := by
        rw [Array.toList_map]; exact key _
      have fin : ∀ cs', (Instr.buildSlice t len (parts.map fun p => (p.1, ev p.2))).run P w = .ok (.slice (some ⟨w.heap.size, 0, none⟩) len len) (w.alloc (.cells cs' e)) → VRs ρ data cs'.toList →
          ∃ l v' w', Rep P w0 (ρ.set H.size 0 l) G' w' ∧ VR (ρ.set H.size 0 l) (.sl ⟨some ⟨H.size, 0, 0⟩, len, .known len⟩) v' ∧
          ∀ o : Oper, o.op = .buildSlice t len parts → o.type = ty → (execOp ev o).run P w = .ok (.value v') w' := by
        intro cs' hrun hcs
        have hlen := hcs.length
        have hh := hrep.newCells hsp cs' (by rw [List.take_of_length_le (by rw [hlen]; exact Nat.le_refl _)]; exact hcs)
        refine ⟨_, _, _, hh, VR.sl (a := ⟨H.size, 0, 0⟩) (l := ⟨w.heap.size, 0, 0, cs'.size⟩) len len (Ren.set_same ρ _ _ _) (Nat.le_refl _), fun o ho _ => ?_⟩
        simp only [execOp, ho, Sem.run_bind, hrun, Result.andThen_ok]
        rfl
      split at hdata
      · rename_i hz
        obtain ⟨cs', hf, hcs⟩ := fill_sound (cs := #[]) hp hb' .nil hdata
        refine fin cs' ?_ hcs
        unfold Instr.buildSlice
        simp only [Sem.run_bind, run_underlying hu, Result.andThen_ok, run_sizeOf w hi, cellsOf_of hi, Sem.run_ite, Sem.run_pure, hz, if_true]
        have : (Array.range 0).map (fun x => (#[] : Array Value)[x % (#[] : Array Value).size]!) = #[] := by simp
        simp only [this, hf]
        simp [newRow]
      · rename_i hz
        obtain ⟨z, hzl, hdata⟩ := bind_some hdata
        obtain ⟨hzs, hdata⟩ := br_some hdata
        have hzs' := Nat.eq_of_beq_eq_true hzs
        obtain ⟨zv, hzr, hzv⟩ := zeroL_sound hzl
        have hzsize : zv.cells.size = i.size := by
          have := (hzv ρ).length; rw [hzs'] at this; simpa using this.symm
        obtain ⟨cs', hf, hcs⟩ := fill_sound hp hb' (rep_VRs hzv len (len * i.size) (by rw [hzsize]) ρ) hdata
        refine fin cs' ?_ hcs
        have hcap' : ¬ len * i.size > 2 ^ 24 := by omega
        unfold Instr.buildSlice
        simp only [Sem.run_bind, run_underlying hu, Result.andThen_ok, run_sizeOf w hi, cellsOf_of hi, Sem.run_ite, hcap', if_false, Sem.run_pure, hz, hzr, hf]
        simp [newRow]
    · cases h
  · cases h

noncomputable def makeMapK (x : Option AV) (H : Heap) (K : AV → Heap → Option R) : Option R :=
  match x with
  | none => K (.map (some H.size)) (H.push (.map [] 0))
  | some _ => none
theorem makeMap_new {t : TypeId} {x : Option Operand} (h : makeMapK (x.map E) H K = some r) : ∃ v y, K v (H.push y) = some r ∧ NewOp P (.makeMap t x) ty E H.size v y := by
  unfold makeMapK at h
  split at h
  · rename_i hx
    cases x with
    | some _ => cases hx
    | none =>
      refine ⟨_, _, h, fun w0 ρ e w G G' hrep hsp hE => ?_⟩
      have hh := hrep.new H.size (.map #[] 0) ⟨w.heap.size, 0, 0, 0⟩ hsp.free hsp.get hsp.size hsp.lt rfl (by rw [hsp.is]; rfl) (by rw [hsp.is]; exact ⟨rfl, #[], heap_alloc_new w _, .nil⟩)
      refine ⟨_, _, _, hh, VR.map (l := ⟨w.heap.size, 0, 0, 0⟩) (Ren.set_same ρ _ _ _), fun o ho _ => ?_⟩
      simp [execOp, ho, Instr.makeMap]
  · cases h

noncomputable def makeSliceK (P : Program) (t : TypeId) (l c : AV) (H : Heap) (K : AV → Heap → Option R) : Option R :=
  match P.underlying t with
  | some (.slice e) => match P.info? e with
    | some inf => match l with
      | .int _ l => match c with
        | .int _ c => (natI l).bind fun l => (natI c).bind fun c => br (Nat.ble l c) (br (Nat.ble c 4294967296) (br (Nat.ble (inf.bytes * c) 281474976710656) ((zeroL P e).bind fun z =>
            br (Nat.beq z.length inf.size) (br (Nat.blt 0 inf.size) (K (.sl ⟨some ⟨H.size, 0, 0⟩, l, .known c⟩) (H.push (.cells e 0 (repL z c) [] false))) none) none) none) none) none
        | _ => none
      | _ => none
    | none => none
  | _ => none
theorem makeSlice_new {t : TypeId} {l c : Operand} (h : makeSliceK P t (E l) (E c) H K = some r) : ∃ v x, K v (H.push x) = some r ∧ NewOp P (.makeSlice t l c) ty E H.size v x := by
  unfold makeSliceK at h
  split at h
  · rename_i e hu
    split at h
    · rename_i inf hinf
      split at h
      · rename_i k1 ln hl
        split at h
        · rename_i k2 cn hc
          obtain ⟨l', hl', h⟩ := bind_some h
          obtain ⟨c', hc', h⟩ := bind_some h
          obtain ⟨h1, h⟩ := br_some h
          obtain ⟨h2, h⟩ := br_some h
          obtain ⟨h3, h⟩ := br_some h
          obtain ⟨z, hzl, h⟩ := bind_some h
          obtain ⟨hzs, h⟩ := br_some h
          obtain ⟨hpos, h⟩ := br_some h
          have e1 := natI_some hl'
          have e2 := natI_some hc'
          have b1 := ble_le h1
          have b2 := ble_le h2
          have b3 := ble_le h3
          have hzs' := Nat.eq_of_beq_eq_true hzs
          have hpos' := blt_lt hpos
          obtain ⟨zv, hzr, hzv⟩ := zeroL_sound hzl
          refine ⟨_, _, h, fun w0 ρ ev w G G' hrep hsp hE => ?_⟩
          have hzsize : zv.cells.size = inf.size := by
            have := (hzv ρ).length; rw [hzs'] at this; simpa using this.symm
          have hx := hE l; rw [hl] at hx
          have hy := hE c; rw [hc] at hy
          generalize hv : ev l = lv at *
          generalize hv' : ev c = cv at *
          cases hx; cases hy
          have hcs := rep_VRs hzv c' (c' * inf.size) (by rw [hzsize]) ρ
          have hlen := hcs.length
          have hh := hrep.newCells hsp ((Array.range (c' * inf.size)).map (zv.cells[· % zv.cells.size]!)) (by rw [List.take_of_length_le (by rw [hlen]; exact Nat.le_refl _)]; exact hcs)
          refine ⟨_, _, _, hh, VR.sl (a := ⟨H.size, 0, 0⟩) (l := ⟨w.heap.size, 0, 0, _⟩) l' c' (Ren.set_same ρ _ _ _) (Nat.le_refl _), fun o ho _ => ?_⟩
          have w1 : IntKind.i64.wrap ln = ln := wrap_in .i64 ln (by simp only [lo]; omega) (by simp only [hi]; omega)
          have w2 : IntKind.i64.wrap cn = cn := wrap_in .i64 cn (by simp only [lo]; omega) (by simp only [hi]; omega)
          have hbb : ((inf.bytes : Int) * cn) ≤ 281474976710656 := by rw [e2]; exact Int.ofNat_le.2 b3
          have t1 : (decide (cn < 0) || decide ((inf.bytes : Int) * cn > 2 ^ 48) || decide (ln < 0) || decide (ln > cn)) = false := by
            simp only [Bool.or_eq_false_iff, decide_eq_false_iff_not]
            refine ⟨⟨⟨by omega, ?_⟩, by omega⟩, by omega⟩
            have : (2 : Int) ^ 48 = 281474976710656 := by decide
            omega
          have hcn : cn.toNat = c' := by omega
          have hln : ln.toNat = l' := by omega
          have hti : (typeInfo e).run P w = .ok inf w := by simp [typeInfo, hinf]
          have hrun : (Instr.makeSlice t (.int k1 ln) (.int k2 cn)).run P w = .ok (.slice (some ⟨w.heap.size, 0, none⟩) l' c') (w.alloc (.cells ((Array.range (c' * inf.size)).map (zv.cells[· % zv.cells.size]!)) e)) := by
            unfold Instr.makeSlice
            simp only [Sem.run_bind, run_underlying hu, Result.andThen_ok, asInt, asIntOf, Sem.run_pure, hti, w1, w2, t1, Bool.false_eq_true, if_false, run_askRoom, run_sizeOf w hinf, cellsOf_of hinf, hcn, hln, Sem.run_ite]
            by_cases hz0 : c' * inf.size = 0
            · have : c' = 0 := by
                rcases Nat.mul_eq_zero.1 hz0 with q | q
                · exact q
                · omega
              subst this
              have r0 : ∀ f : Nat → Value, (Array.range 0).map f = #[] := fun f => by simp
              simp [newRow, r0]
            · simp only [hz0, if_false, hzr, Result.andThen_ok]
              simp [newRow]
          simp only [execOp, ho, Sem.run_bind, hv, hv', hrun, Result.andThen_ok]
          rfl
        · cases h
      · cases h
    · cases h
  · cases h

theorem alloc_sound {e : TypeId} (h : allocK P e H K = some r) : ∃ v H', K v H' = some r ∧ EffOp P H (.alloc e) ty E v H' :=
  let ⟨v, x, a, b⟩ := alloc_new h; ⟨v, H.push x, a, b.eff⟩
theorem box_sound {e : TypeId} {x : Operand} (h : boxK e (E x) H K = some r) : ∃ v H', K v H' = some r ∧ EffOp P H (.box e x) ty E v H' :=
  let ⟨v, x, a, b⟩ := box_new h; ⟨v, H.push x, a, b.eff⟩
theorem buildSlice_sound {t : TypeId} {len : Nat} {parts : Array (Nat × Operand)} (h : buildSliceK P t len (parts.toList.map fun p => (p.1, E p.2)) H K = some r) :
    ∃ v H', K v H' = some r ∧ EffOp P H (.buildSlice t len parts) ty E v H' :=
  let ⟨v, x, a, b⟩ := buildSlice_new h; ⟨v, H.push x, a, b.eff⟩
theorem makeMap_sound {t : TypeId} {x : Option Operand} (h : makeMapK (x.map E) H K = some r) : ∃ v H', K v H' = some r ∧ EffOp P H (.makeMap t x) ty E v H' :=
  let ⟨v, x, a, b⟩ := makeMap_new h; ⟨v, H.push x, a, b.eff⟩
theorem makeSlice_sound {t : TypeId} {l c : Operand} (h : makeSliceK P t (E l) (E c) H K = some r) : ∃ v H', K v H' = some r ∧ EffOp P H (.makeSlice t l c) ty E v H' :=
  let ⟨v, x, a, b⟩ := makeSlice_new h; ⟨v, H.push x, a, b.eff⟩
end
end Go.Ab
