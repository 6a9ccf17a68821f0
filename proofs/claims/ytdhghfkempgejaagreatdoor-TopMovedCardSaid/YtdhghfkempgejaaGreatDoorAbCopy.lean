/- The abstract machine, 17c: copy and clear. -/
import Derived.Test.YtdhghfkempgejaaGreatDoorAbIter
namespace Go.Ab
open Go.RowKit
section
variable {R : Type} {P : Program} {E : Operand → AV} {ty : TypeId} {K : AV → Heap → Option R} {r : R} {w0 : World} {ρ ρ' : Ren} {H H' : Heap} {w w' : World}

/-- Cells are written behind an address. -/
theorem store_cells (hrep : Rep P w0 ρ H w) {a : AA} {vs : List AV} {l : Loc} (hl : ρ a.b a.g = some l) (hlo : l.lo ≤ a.o) (hst : H.store a vs = some H') {vs' : List Value} (hv : VRs ρ vs vs') :
    ∃ w', Ext ρ H ρ H' ∧ Rep P w0 ρ H' w' ∧ (storeCells (l.at a.o) vs').run P w = .ok () w' := by
  obtain ⟨el, data, old, hb, hfit, hone, rfl⟩ := store_some hst
  obtain ⟨c, k1, k2, k3, hrep', hext⟩ := hrep.write hb hl hlo hfit hv
  exact ⟨_, hext, hrep', run_storeCells_at (P := P) l.cb (l.s + (a.o - l.lo)) el vs' 0 c w k1 (by simpa using k3) (hv.one hone)⟩

noncomputable def minN (a b : Nat) : Nat := br (Nat.ble a b) a b
theorem minN_eq (a b : Nat) : minN a b = min a b := ble_min a b
noncomputable def copyS (z : Nat) (H : Heap) (d s : Sl) : Option (Nat × Heap) :=
  br (Nat.beq (minN s.n d.n) 0) (some (0, H)) (d.a.bind fun a => s.a.bind fun b => (H.row b (Nat.mul (minN s.n d.n) z)).bind fun l => (H.store a l).bind fun H' => some (minN s.n d.n, H'))
noncomputable def copyK (P : Program) (ts : List TypeId) (args : List AV) (H : Heap) (K : AV → Heap → Option R) : Option R :=
  match ts with
  | [t, _] => match P.underlying t with
    | some (.slice e) => match P.info? e with
      | some i => match args with
        | [.sl d, .sl s] => (copyS i.size H d s).bind fun p => K (.int .i64 (Int.ofNat p.1)) p.2
        | _ => none
      | none => none
    | _ => none
  | _ => none

theorem sl_parts {s : Sl} {v : Value} (h : VR ρ (.sl s) v) : ∃ a c, v = .slice a s.n c ∧ (s.n ≠ 0 → ∀ x, s.a = some x → ∃ l, ρ x.b x.g = some l ∧ l.lo ≤ x.o ∧ a = some (l.at x.o)) := by
  obtain ⟨sa, sn, sc⟩ := s
  cases h with
  | nilSl n c => exact ⟨_, _, rfl, fun _ x h => by cases h⟩
  | sl n c hl hlo => exact ⟨_, _, rfl, fun _ x h => by cases h; exact ⟨_, hl, hlo, rfl⟩⟩
  | slU n c z hl hlo _ _ => exact ⟨_, _, rfl, fun _ x h => by cases h; exact ⟨_, hl, hlo, rfl⟩⟩
  | slE x c hl hlo hc => exact ⟨_, _, rfl, fun h0 => absurd rfl h0⟩

theorem copy_sound {ts : Array TypeId} {args : Array Operand} (h : copyK P ts.toList (args.toList.map E) H K = some r) :
    ∃ v H', K v H' = some r ∧ EffOp P H (.call { callee := .builtin .copy, args := args, argTypes := ts }) ty E v H' := by
  unfold copyK at h
  split at h
  · rename_i t u hts
    split at h
    · rename_i e hu
      split at h
      · rename_i i hi
        split at h
        · rename_i d s hargs
          obtain ⟨⟨n, H1⟩, hc, h⟩ := bind_some h
          refine ⟨_, _, h, fun w0 ρ ev w hrep hE => ?_⟩
          obtain ⟨args⟩ := args
          obtain ⟨ts⟩ := ts
          simp only at hts hargs
          subst hts
          rcases args with _ | ⟨o1, _ | ⟨o2, _ | ⟨o3, l3⟩⟩⟩ <;> simp only [List.map_cons, List.map_nil, List.cons.injEq, and_true, reduceCtorEq, and_false] at hargs
          obtain ⟨e1, e2⟩ := hargs
          have h1 := hE o1; rw [e1] at h1
          have h2 := hE o2; rw [e2] at h2
          obtain ⟨da, dc, hd, hdp⟩ := sl_parts h1
          obtain ⟨sa, sc, hs, hsp⟩ := sl_parts h2
          unfold copyS at hc
          cases hz : Nat.beq (minN s.n d.n) 0 with
          | true =>
            rw [hz, br_true] at hc
            have hz' := Nat.eq_of_beq_eq_true hz
            rw [minN_eq] at hz'
            have hc := Option.some.inj hc
            have hn : n = 0 := (congrArg Prod.fst hc).symm
            have hH : H1 = H := (congrArg Prod.snd hc).symm
            subst hn; subst hH
            refine ⟨ρ, .int .i64 0, w, Ext.refl _ _, hrep, .int _ _, fun o ho hty => .inl ?_⟩
            have hm : Nat.min s.n d.n = 0 := hz'
            have hf : (Builtin.firstCells i.size 0 (.slice sa s.n sc)).run P w = .ok #[] w := by
              have := firstCells_of (P := P) (w := w) (z := i.size) (m := 0) (cc := sc) (a := sa) (news := []) (by simp) (fun _ _ j u hu => by simp at hu) (fun _ => rfl)
              cases sa <;> first | (simp [Builtin.firstCells]; done) | simpa [Builtin.firstCells] using this
            simp only [execOp, ho, resolve, Sem.run_bind, Sem.run_pure, Result.andThen_ok, invoke, builtin, List.map_toArray, List.map_cons, List.map_nil, hd, hs]
            cases da <;> simp [Builtin.copy_, run_underlying hu, Builtin.lenOf, hm, run_sizeOf w hi, cellsOf_of hi, hf, storeCells, goInt]
          | false =>
            rw [hz, br_false] at hc
            have hz' : min s.n d.n ≠ 0 := by have := Nat.ne_of_beq_eq_false hz; rwa [minN_eq] at this
            obtain ⟨a, ha, hc⟩ := bind_some hc
            obtain ⟨b, hb, hc⟩ := bind_some hc
            obtain ⟨l, hl, hc⟩ := bind_some hc
            obtain ⟨H2, hst, hc⟩ := bind_some hc
            have hc := Option.some.inj hc
            have hn : n = minN s.n d.n := (congrArg Prod.fst hc).symm
            have hH : H1 = H2 := (congrArg Prod.snd hc).symm
            obtain ⟨la, q1, q2, q3⟩ := hdp (by omega) a ha
            obtain ⟨lb, p1, p2, p3⟩ := hsp (by omega) b hb
            obtain ⟨hlen, vs', hv, hvl, hcell⟩ := hrep.rowCells p1 p2 hl
            obtain ⟨w', hext, hrep', hrun⟩ := store_cells hrep q1 q2 hst hv
            refine ⟨ρ, .int .i64 (Int.ofNat n), w', by rw [hH]; exact hext, by rw [hH]; exact hrep', .int _ _, fun o ho hty => .inl ?_⟩
            have hm : Nat.min s.n d.n = n := by rw [hn, minN_eq]
            have hf : (Builtin.firstCells i.size n (.slice sa s.n sc)).run P w = .ok vs'.toArray w := by
              have := firstCells_of (P := P) (w := w) (z := i.size) (m := n) (cc := sc) (a := sa) (news := vs') (by rw [hvl, hn, Nat.mul_eq]) (fun x hx j u hu => by
                rw [p3] at hx; cases hx
                exact hcell j u hu) (fun hnone => by rw [p3] at hnone; cases hnone)
              cases sa <;> first | (simp [Builtin.firstCells]; done) | simpa [Builtin.firstCells] using this
            simp only [execOp, ho, resolve, Sem.run_bind, Sem.run_pure, Result.andThen_ok, invoke, builtin, List.map_toArray, List.map_cons, List.map_nil, hd, hs]
            rw [q3]
            simp [Builtin.copy_, run_underlying hu, Builtin.lenOf, hm, run_sizeOf w hi, cellsOf_of hi, hf, hrun, goInt]
        · cases h
      · cases h
    · cases h
  · cases h

noncomputable def clearS (z : List AV) (H : Heap) (s : Sl) : Option Heap :=
  br (Nat.beq s.n 0) (some H) (s.a.bind fun a => H.store a (repL z s.n))
noncomputable def clearM (H : Heap) (o : Option Nat) : Option Heap :=
  match o with
  | none => some H
  | some b => (H.mapAt b).bind fun p => some (H.put b (.map [] p.2))
noncomputable def clearK (P : Program) (ts : List TypeId) (args : List AV) (H : Heap) (K : AV → Heap → Option R) : Option R :=
  match ts with
  | [t] => match P.underlying t with
    | some (.slice e) => match args with
      | [.sl s] => (zeroL P e).bind fun z => (clearS z H s).bind fun H' => K (.tuple []) H'
      | _ => none
    | some (.map _ _) => match args with
      | [.map o] => (clearM H o).bind fun H' => K (.tuple []) H'
      | _ => none
    | _ => none
  | _ => none
theorem clear_sound {ts : Array TypeId} {args : Array Operand} (h : clearK P ts.toList (args.toList.map E) H K = some r) :
    ∃ v H', K v H' = some r ∧ EffOp P H (.call { callee := .builtin .clear, args := args, argTypes := ts }) ty E v H' := by
  unfold clearK at h
  split at h
  · rename_i t hts
    split at h
    · rename_i e hu
      split at h
      · rename_i s hargs
        obtain ⟨z, hz, h⟩ := bind_some h
        obtain ⟨H1, hc, h⟩ := bind_some h
        obtain ⟨zv, hzr, hzv⟩ := zeroL_sound hz
        refine ⟨_, _, h, fun w0 ρ ev w hrep hE => ?_⟩
        obtain ⟨args⟩ := args
        obtain ⟨ts⟩ := ts
        simp only at hts hargs
        subst hts
        rcases args with _ | ⟨o1, _ | ⟨o2, l3⟩⟩ <;> simp only [List.map_cons, List.map_nil, List.cons.injEq, and_true, reduceCtorEq, and_false] at hargs
        have h1 := hE o1; rw [hargs] at h1
        obtain ⟨sa, sc, hs, hsp⟩ := sl_parts h1
        unfold clearS at hc
        cases hq : Nat.beq s.n 0 with
        | true =>
          rw [hq, br_true] at hc
          have hc := (Option.some.inj hc).symm
          have hn := Nat.eq_of_beq_eq_true hq
          refine ⟨ρ, .tuple #[], w, by rw [hc]; exact Ext.refl _ _, by rw [hc]; exact hrep, .tuple .nil, fun o ho hty => .inl ?_⟩
          simp only [execOp, ho, resolve, Sem.run_bind, Sem.run_pure, Result.andThen_ok, invoke, builtin, List.map_toArray, List.map_cons, List.map_nil, hs, hn]
          cases sa <;> simp [Builtin.clear_, run_underlying hu]
        | false =>
          rw [hq, br_false] at hc
          have hn := Nat.ne_of_beq_eq_false hq
          obtain ⟨a, ha, hst⟩ := bind_some hc
          obtain ⟨la, q1, q2, q3⟩ := hsp hn a ha
          have hcs := rep_VRs hzv s.n (s.n * zv.cells.size) (by rfl) ρ
          obtain ⟨w', hext, hrep', hrun⟩ := store_cells hrep q1 q2 hst hcs
          refine ⟨ρ, .tuple #[], w', hext, hrep', .tuple .nil, fun o ho hty => .inl ?_⟩
          simp only [execOp, ho, resolve, Sem.run_bind, Sem.run_pure, Result.andThen_ok, invoke, builtin, List.map_toArray, List.map_cons, List.map_nil, hs]
          rw [q3]
          obtain ⟨k, hk⟩ : ∃ k, s.n = k + 1 := ⟨s.n - 1, by omega⟩
          rw [hk] at hrun ⊢
          simp only [Builtin.clear_, List.getElem?_toArray, List.getElem?_cons_zero, Sem.run_bind, run_underlying hu, Result.andThen_ok, hzr, Builtin.zeroCells, hrun, Sem.run_pure]
      · cases h
    · rename_i k el hu
      split at h
      · rename_i om hargs
        obtain ⟨H1, hc, h⟩ := bind_some h
        refine ⟨_, _, h, fun w0 ρ ev w hrep hE => ?_⟩
        obtain ⟨args⟩ := args
        obtain ⟨ts⟩ := ts
        simp only at hts hargs
        subst hts
        rcases args with _ | ⟨o1, _ | ⟨o2, l3⟩⟩ <;> simp only [List.map_cons, List.map_nil, List.cons.injEq, and_true, reduceCtorEq, and_false] at hargs
        have h1 := hE o1; rw [hargs] at h1
        generalize hv : ev o1 = v at *
        unfold clearM at hc
        split at hc
        · have hc := (Option.some.inj hc).symm
          cases h1
          refine ⟨ρ, .tuple #[], w, by rw [hc]; exact Ext.refl _ _, by rw [hc]; exact hrep, .tuple .nil, fun o ho hty => .inl ?_⟩
          simp only [execOp, ho, resolve, Sem.run_bind, Sem.run_pure, Result.andThen_ok, invoke, builtin, List.map_toArray, List.map_cons, List.map_nil, hv]
          simp [Builtin.clear_, run_underlying hu]
        · rename_i b
          obtain ⟨⟨es, c⟩, hb, hc⟩ := bind_some hc
          have hc := (Option.some.inj hc).symm
          have hb := mapAt_some hb
          cases h1 with
          | map hl =>
            rename_i l
            obtain ⟨es', hw, he⟩ := hrep.mapBlk hl hb
            have hput := hrep.mapPut (c2 := c) (es2 := []) (es2' := #[]) hl hb .nil
            refine ⟨ρ, .tuple #[], _, by rw [hc]; exact hput.2, by rw [hc]; exact hput.1, .tuple .nil, fun o ho hty => .inl ?_⟩
            simp only [execOp, ho, resolve, Sem.run_bind, Sem.run_pure, Result.andThen_ok, invoke, builtin, List.map_toArray, List.map_cons, List.map_nil, hv]
            simp [Builtin.clear_, run_underlying hu, run_getMap hw, run_setMap hw]
      · cases h
    · cases h
  · cases h
end
end Go.Ab
