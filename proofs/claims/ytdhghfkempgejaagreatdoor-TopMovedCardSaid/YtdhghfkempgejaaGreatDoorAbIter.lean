/- The abstract machine, 17b: iterators over maps and strings. -/
import Derived.Test.YtdhghfkempgejaaGreatDoorAbEff
namespace Go.Ab
open Go.RowKit
section
variable {R : Type} {P : Program} {E : Operand → AV} {ty : TypeId} {K : AV → Heap → Option R} {r : R} {w0 : World} {ρ ρ' : Ren} {H H' : Heap} {w w' : World}

/-- A block of one generation gets other contents. -/
theorem Rep.put0 (h : Rep P w0 ρ H w) {b : Nat} {l : Loc} {o : Obj} {x : Blk} (hl : ρ b 0 = some l) (hg : ∀ g l', ρ b g = some l' → g = 0) (hro : (H.get b).ro = false)
    (hx : BlkRep P ρ { w with heap := w.heap.setIfInBounds l.cb o } l 0 x) (hxc : ∀ e g d o r, x ≠ .cells e g d o r) :
    Rep P w0 ρ (H.put b x) { w with heap := w.heap.setIfInBounds l.cb o } ∧ Ext ρ H ρ (H.put b x) := by
  refine ⟨?_, Ext.change hl _ (Ren.le_refl ρ) (fun _ _ _ => rfl)⟩
  have hlt := (h.dom b 0 l hl).2
  refine h.change b _ (Ren.le_refl ρ) (fun _ _ _ => rfl) (h.dom b 0 l hl).1 hro rfl rfl rfl (by simp) ?_ ?_ ?_ ?_
  · intro k _ hk
    show (w.heap.setIfInBounds l.cb _)[k]? = _
    rw [Array.getElem?_setIfInBounds_ne (fun e => hk 0 l hl e)]
  · intro g l' hl'
    have h0 := hg g l' hl'
    subst h0
    rw [hl] at hl'; cases hl'
    exact ⟨by simpa using hlt, hx, .inl ⟨0, l, hl, rfl⟩⟩
  · intro g l1 g' l2 e1 e2 hcb
    exact h.al b g l1 g' l2 e1 e2 hcb
  · intro g l1 g0 e1 hx
    obtain ⟨e, d, o, r, hx⟩ := hx
    exact absurd hx (hxc _ _ _ _ _)
theorem Rep.iter_gen (h : Rep P w0 ρ H w) {b : Nat} {m : Option Nat} {since last : Nat} {seen : List Nat} (hb : H.get b = .iter m since seen last) : ∀ g l', ρ b g = some l' → g = 0 := by
  intro g l' hl'
  have := h.blk b g l' hl'
  rw [hb] at this
  cases m <;> exact this.1
theorem Rep.siter_gen (h : Rep P w0 ρ H w) {b : Nat} {s : ByteArray} {p : Nat} (hb : H.get b = .siter s p) : ∀ g l', ρ b g = some l' → g = 0 := by
  intro g l' hl'
  have := h.blk b g l' hl'
  rw [hb] at this
  exact this.1

theorem run_setIter {b : Nat} {m : Option Nat} {a c : Nat} {l : Array Nat} {o' : Obj} (h : w.heap[b]? = some (.mapIter m a l c)) : (setObj b o').run P w = .ok () { w with heap := w.heap.setIfInBounds b o' } := by
  simp [setObj, Sem.run, h]
theorem run_setSIter {b : Nat} {s : ByteArray} {p : Nat} {o' : Obj} (h : w.heap[b]? = some (.stringIter s p)) : (setObj b o').run P w = .ok () { w with heap := w.heap.setIfInBounds b o' } := by
  simp [setObj, Sem.run, h]
theorem run_getIter {b : Nat} {m : Option Nat} {a c : Nat} {l : Array Nat} (h : w.heap[b]? = some (.mapIter m a l c)) : (getObj b).run P w = .ok (.mapIter m a l c) w := by
  simp [getObj, Sem.run, h]
theorem run_getSIter {b : Nat} {s : ByteArray} {p : Nat} (h : w.heap[b]? = some (.stringIter s p)) : (getObj b).run P w = .ok (.stringIter s p) w := by
  simp [getObj, Sem.run, h]
theorem decode_plain {s : ByteArray} {i : Nat} {c : UInt8} (h : s[i]? = some c) (hc : c.toNat < 128) : Utf8.decode s i = (c.toNat, 1) := by
  have e : s.get! i = c := by
    have hlt : i < s.size := by
      rcases Nat.lt_or_ge i s.size with q | q
      · exact q
      · rw [getElem?_neg s i (by simpa using q)] at h; cases h
    rw [getElem?_pos s i hlt] at h
    have := Option.some.inj h
    rw [← this]
    show s.data[i]! = _
    rw [getElem!_pos s.data i hlt]
    rfl
  unfold Utf8.decode
  simp [e, hc]

noncomputable def rangeK (P : Program) (t : TypeId) (x : AV) (H : Heap) (K : AV → Heap → Option R) : Option R :=
  match P.underlying t with
  | some (.map _ _) => match x with
    | .map o => match o with
      | none => K (.ptr (some ⟨H.size, 0, 0⟩)) (H.push (.iter none 0 [] 0))
      | some b => (H.mapAt b).bind fun p => K (.ptr (some ⟨H.size, 0, 0⟩)) (H.push (.iter (some b) p.2 [] p.2))
    | _ => none
  | some .string => match x with
    | .str s => K (.ptr (some ⟨H.size, 0, 0⟩)) (H.push (.siter s 0))
    | _ => none
  | _ => none
theorem range_sound {t : TypeId} {x : Operand} (h : rangeK P t (E x) H K = some r) : ∃ v H', K v H' = some r ∧ EffOp P H (.range t x) ty E v H' := by
  unfold rangeK at h
  split at h
  · rename_i k el hu
    split at h
    · rename_i ob hx
      split at h
      · refine ⟨_, _, h, fun w0 ρ e w hrep hE => ?_⟩
        have hv := hE x; rw [hx] at hv
        have hp := hrep.push (.mapIter none 0 #[] 0) (.iter none 0 [] 0) ⟨w.heap.size, 0, 0, 0⟩ rfl rfl ⟨rfl, rfl, heap_alloc_new w _⟩
        refine ⟨_, _, _, hp.2, hp.1, VR.ptr (l := ⟨w.heap.size, 0, 0, 0⟩) (Ren.set_same ρ _ _ _) (Nat.le_refl _), fun o ho _ => .inl ?_⟩
        generalize hy : e x = y at *
        cases hv
        simp [execOp, ho, hy, Instr.range, run_underlying hu]
        rfl
      · rename_i b
        obtain ⟨⟨es, c⟩, hb1, h⟩ := bind_some h
        have hb := mapAt_some hb1
        refine ⟨_, _, h, fun w0 ρ e w hrep hE => ?_⟩
        have hv := hE x; rw [hx] at hv
        generalize hy : e x = y at *
        cases hv with
        | map hl =>
          rename_i l
          obtain ⟨es', hw, he⟩ := hrep.mapBlk hl hb
          have hp := hrep.push (.mapIter (some l.cb) c #[] c) (.iter (some b) c [] c) ⟨w.heap.size, 0, 0, 0⟩ rfl rfl ⟨rfl, rfl, l, Ren.le_set ρ _ (hrep.fresh 0) _ _ _ hl, heap_alloc_new w _⟩
          refine ⟨_, _, _, hp.2, hp.1, VR.ptr (l := ⟨w.heap.size, 0, 0, 0⟩) (Ren.set_same ρ _ _ _) (Nat.le_refl _), fun o ho _ => .inl ?_⟩
          simp [execOp, ho, hy, Instr.range, run_underlying hu, run_getMap hw]
          rfl
    · cases h
  · rename_i hu
    split at h
    · rename_i s hx
      refine ⟨_, _, h, fun w0 ρ e w hrep hE => ?_⟩
      have hv := hE x; rw [hx] at hv
      have hp := hrep.push (.stringIter s 0) (.siter s 0) ⟨w.heap.size, 0, 0, 0⟩ rfl rfl ⟨rfl, rfl, heap_alloc_new w _⟩
      refine ⟨_, _, _, hp.2, hp.1, VR.ptr (l := ⟨w.heap.size, 0, 0, 0⟩) (Ren.set_same ρ _ _ _) (Nat.le_refl _), fun o ho _ => .inl ?_⟩
      generalize hy : e x = y at *
      cases hv
      simp [execOp, ho, hy, Instr.range, run_underlying hu]
      rfl
    · cases h
  · cases h

/-- A step along a string (of plain letters). -/
noncomputable def nextSK (x : AV) (H : Heap) (K : AV → Heap → Option R) : Option R :=
  match x with
  | .ptr o => o.bind fun a => br (Nat.beq a.o 0) (br (Nat.beq a.g 0) (match H.get a.b with
      | .siter s pos => br (Nat.blt pos s.size) ((strAt s (Int.ofNat pos)).bind fun c => br (ltI c 128) (K (.tuple [.bool true, .int .i64 (Int.ofNat pos), .int .i32 c]) (H.put a.b (.siter s (Nat.succ pos)))) none) (K (.tuple [.bool false]) H)
      | _ => none) none) none
  | _ => none
theorem next_sound {x : Operand} (h : nextSK (E x) H K = some r) : ∃ v H', K v H' = some r ∧ EffOp P H (.next x true) ty E v H' := by
  unfold nextSK at h
  split at h
  · rename_i oa hx
    obtain ⟨a, hoa, h⟩ := bind_some h
    subst hoa
    obtain ⟨ho0, h⟩ := br_some h
    obtain ⟨hg0, h⟩ := br_some h
    have ho0 := Nat.eq_of_beq_eq_true ho0
    have hg0 := Nat.eq_of_beq_eq_true hg0
    split at h
    · rename_i s pos hb
      cases hlt : Nat.blt pos s.size with
      | true =>
        rw [hlt, br_true] at h
        have hlt' := blt_lt hlt
        obtain ⟨c, hc, h⟩ := bind_some h
        obtain ⟨h128, h⟩ := br_some h
        obtain ⟨_, c0, hc1, hc2⟩ := strAt_some hc
        refine ⟨_, _, h, fun w0 ρ e w hrep hE => ?_⟩
        have hv := hE x; rw [hx] at hv
        generalize hy : e x = y at *
        cases hv with
        | ptr hl hlo =>
          rename_i l
          rw [hg0] at hl
          have hblk := hrep.blk a.b 0 l hl
          rw [hb] at hblk
          obtain ⟨_, hs0, hw⟩ := hblk
          have hcb := (hrep.dom _ _ _ hl).2
          have hp := hrep.put0 (o := .stringIter s (pos + 1)) (x := .siter s (pos + 1)) hl (hrep.siter_gen hb) (by rw [hb]; rfl) ⟨rfl, hs0, by simp [hcb]⟩ (by intro _ _ _ _ _ e; cases e)
          refine ⟨_, _, _, hp.2, hp.1, .tuple (c := #[.bool true, .int .i64 (Int.ofNat pos), .int .i32 c]) (.cons (.bool true) (.cons (.int _ _) (.cons (.int _ _) .nil))), fun o ho _ => .inl ?_⟩
          have h128' : c0.toNat < 128 := by
            rw [ltI_eq] at h128; have := of_decide_eq_true h128; omega
          have hdec := decode_plain hc1 h128'
          have hat : l.at a.o = ⟨l.cb, 0, none⟩ := by unfold Loc.at; rw [hs0, ho0, Nat.zero_sub]
          have hpos : (Int.ofNat pos).toNat = pos := by simp
          rw [hpos] at hdec
          simp only [execOp, ho, hy, Instr.next, hat, Sem.run_bind, run_getSIter hw, Result.andThen_ok, hlt', if_true, hdec, run_setSIter hw, Sem.run_pure, goInt, hc2]
          rfl
      | false =>
        rw [hlt, br_false] at h
        have hlt' : ¬ pos < s.size := fun q => by rw [← Nat.blt_eq] at q; rw [q] at hlt; cases hlt
        refine ⟨_, _, h, fun w0 ρ e w hrep hE => ?_⟩
        have hv := hE x; rw [hx] at hv
        generalize hy : e x = y at *
        cases hv with
        | ptr hl hlo =>
          rename_i l
          rw [hg0] at hl
          have hblk := hrep.blk a.b 0 l hl
          rw [hb] at hblk
          obtain ⟨_, hs0, hw⟩ := hblk
          refine ⟨ρ, _, w, Ext.refl _ _, hrep, .tuple (c := #[.bool false]) (.cons (.bool false) .nil), fun o ho _ => .inl ?_⟩
          have hat : l.at a.o = ⟨l.cb, 0, none⟩ := by unfold Loc.at; rw [hs0, ho0, Nat.zero_sub]
          simp only [execOp, ho, hy, Instr.next, hat, Sem.run_bind, run_getSIter hw, Result.andThen_ok, hlt', if_false, Sem.run_pure]
    · cases h
  · cases h

/-- The entry at which an iterator over a map stands. -/
noncomputable def findB (es : List ME) (n : Nat) : Option ME := List.rec none (fun e _ ih => br (Nat.beq e.born n) (some e) ih) es
theorem findB_cons (e : ME) (es : List ME) (n : Nat) : findB (e :: es) n = br (Nat.beq e.born n) (some e) (findB es n) := rfl
noncomputable def lastN (l : List Nat) : Option Nat := List.rec none (fun x _ ih => match ih with | none => some x | some y => some y) l
theorem lastN_eq : ∀ l : List Nat, lastN l = l.getLast?
  | [] => rfl
  | [x] => rfl
  | x :: y :: l => by
    show (match lastN (y :: l) with | none => some x | some z => some z) = _
    rw [lastN_eq (y :: l), List.getLast?_cons_cons]
    cases h : (y :: l).getLast? with
    | none => simp at h
    | some z => rfl
theorem findB_rep {n : Nat} {e : ME} : ∀ {es : List ME} {es' : List MapEntry}, EntriesRep ρ es es' → findB es n = some e → ∃ e', es'.find? (·.born == n) = some e' ∧ EntryRep ρ e e'
  | _, _, .nil, h => by cases h
  | _, _, .cons (x := x) (y := y) a b, h => by
    rw [findB_cons] at h
    have hb := a.born
    cases hq : Nat.beq x.born n with
    | true =>
      rw [hq, br_true] at h
      cases h
      have := Nat.eq_of_beq_eq_true hq
      exact ⟨y, by rw [List.find?_cons, show (y.born == n) = true by rw [← hb, this]; simp], a⟩
    | false =>
      rw [hq, br_false] at h
      obtain ⟨e', h1, h2⟩ := findB_rep b h
      have := Nat.ne_of_beq_eq_false hq
      exact ⟨e', by rw [List.find?_cons, show (y.born == n) = false by rw [← hb]; simpa using this]; exact h1, h2⟩
noncomputable def entryK (x : AV) (H : Heap) (K : AV → Option R) : Option R :=
  match x with
  | .ptr o => o.bind fun a => br (Nat.beq a.o 0) (br (Nat.beq a.g 0) (match H.get a.b with
      | .iter m _ seen last => m.bind fun b => (lastN seen).bind fun n => (H.mapAt b).bind fun p => br (Nat.beq p.2 last) ((findB p.1 n).bind fun e => K (.tuple [e.k, e.v])) none
      | _ => none) none) none
  | _ => none
theorem entry_sound {K : AV → Option R} {x : Operand} (h : entryK (E x) H K = some r) : ∃ v, K v = some r ∧ ReadOp P H (.entry x) ty E v := by
  unfold entryK at h
  split at h
  · rename_i oa hx
    obtain ⟨a, hoa, h⟩ := bind_some h
    subst hoa
    obtain ⟨ho0, h⟩ := br_some h
    obtain ⟨hg0, h⟩ := br_some h
    have ho0 := Nat.eq_of_beq_eq_true ho0
    have hg0 := Nat.eq_of_beq_eq_true hg0
    split at h
    · rename_i m since seen last hb
      obtain ⟨m2, hm, h⟩ := bind_some h
      rw [hm] at hb
      obtain ⟨n, hn, h⟩ := bind_some h
      obtain ⟨⟨es, c⟩, hmb, h⟩ := bind_some h
      obtain ⟨hcl, h⟩ := br_some h
      obtain ⟨e, hf, h⟩ := bind_some h
      have hmb := mapAt_some hmb
      have hcl : c = last := Nat.eq_of_beq_eq_true hcl
      rw [← hcl] at hb
      refine ⟨_, h, fun w0 ρ ev w hrep hE => ?_⟩
      have hv := hE x; rw [hx] at hv
      generalize hy : ev x = y at *
      cases hv with
      | ptr hl hlo =>
        rename_i l
        rw [hg0] at hl
        have hblk := hrep.blk a.b 0 l hl
        rw [hb] at hblk
        obtain ⟨_, hs0, l', hl', hw⟩ := hblk
        obtain ⟨es', hw', he⟩ := hrep.mapBlk hl' hmb
        obtain ⟨e', hf', her⟩ := findB_rep he hf
        have hat : l.at a.o = ⟨l.cb, 0, none⟩ := by unfold Loc.at; rw [hs0, ho0, Nat.zero_sub]
        have hback : seen.toArray.back? = some n := by rw [List.back?_toArray, ← lastN_eq]; exact hn
        refine ⟨_, .tuple (c := #[e'.key, e'.val]) (.cons her.k (.cons her.v .nil)), fun o ho _ => ?_⟩
        rw [Array.find?_toList] at hf'
        simp only [execOp, ho, hy, Instr.entry, hat, Sem.run_bind, run_getIter hw, Result.andThen_ok, hback, run_getMap hw', bne_self_eq_false, Bool.false_eq_true, if_false, hf', Sem.run_pure]
    · cases h
  · cases h
end
end Go.Ab
