/- PROVED: spadillelaw09.MendWorst answers true at every two bytes and leaves its arguments as they were. Condition: the row lists math/bits.deBruijn32tab, which the given tie ties to the text of the program. -/
import Derived.Test.YtjcmbghmmdakgaaDoorW
import Derived.Test.YtjcmbghmmdakgaaDoorCards
import Derived.Test.YtjcmbghmmdakgaaDoorTie
import Derived.WalkKit
import Derived.ProofKit
import Derived.OpenShut
import Derived.ChangeSame
import Derived.ChangeVars
import Derived.JoinedOf
import Derived.RowKit
import Derived.RowKitTokens
import Derived.LaidLaws
import Derived.LaidHandle
import Derived.Stop.Joined
import Derived.SevenTiedAt
import Derived.Lib.LaidTab
import Derived.Lib.LaidIn
open Go Go.Ab
namespace Go.Proofs.YtjcmbghmmdakgaaDoor
open Go.ChangeShapes Go.WideShapes Go.ChangeAt Go.RowKit
set_option maxRecDepth 1000000
set_option linter.unusedVariables false

theorem wr_u8 {a : Int} (h0 : 0 ≤ a) (h1 : a < 256) : wr .i64 a = a := by rw [wr_eq, wrap_in .i64 a (by simp only [lo]; omega) (by simp only [hi]; omega)]
theorem tmod_mod {a k : Int} (h0 : 0 ≤ a) (hk : 0 < k) : Int.tmod (a % k) k = Int.tmod a k := by
  rw [Int.tmod_eq_emod_of_nonneg (Int.emod_nonneg a (by omega)), Int.tmod_eq_emod_of_nonneg h0, Int.emod_emod]
theorem q4_mod (F : FTab) (N : Nat) (H : Heap) (fin : AV → Heap → Option RV) {a b : Int} (ha : 0 ≤ a ∧ a < 256) (hb : 0 ≤ b ∧ b < 256) : Q.q4_S F N a b H fin = Q.q4_S F N (a % 5) (b % 4) H fin := by
  have h1 := wr_u8 ha.1 ha.2
  have h2 := wr_u8 hb.1 hb.2
  have h3 := wr_u8 (a := a % 5) (Int.emod_nonneg a (by omega)) (by omega)
  have h4 := wr_u8 (a := b % 4) (Int.emod_nonneg b (by omega)) (by omega)
  unfold Q.q4_S
  rw [h1, h3, bindI_eq a, bindI_eq (a % 5)]
  rw [tmod_mod ha.1 (by omega)]
  rw [h2, h4]
  simp only [bindI_eq]
  rw [tmod_mod hb.1 (by omega)]
theorem F1_at (a b : Int) : Q.F1 4 [.int .u8 a, .int .u8 b] Q.Hg = (Q.q4_S (ftab Q.disp1 29) 100000 a b Q.Hg pairK).bind fun p => br (flat3 p.1) (some (p.1, Q.Hg)) none := by kernel_rfl
theorem worst_ev {a b : Int} (ha : 0 ≤ a ∧ a < 256) (hb : 0 ≤ b ∧ b < 256) : ∃ H1, Q.F1 4 [.int .u8 a, .int .u8 b] Q.Hg = some (.bool true, H1) := by
  have key : ∀ x y : Int, 0 ≤ x → x < 5 → 0 ≤ y → y < 4 → Q.isT (Q.F1 4 [.int .u8 x, .int .u8 y] Q.Hg) = true := by
    intro x y h1 h2 h3 h4
    obtain rfl | rfl | rfl | rfl | rfl : x = 0 ∨ x = 1 ∨ x = 2 ∨ x = 3 ∨ x = 4 := by omega
    all_goals obtain rfl | rfl | rfl | rfl : y = 0 ∨ y = 1 ∨ y = 2 ∨ y = 3 := by omega
    · exact Q.w00
    · exact Q.w01
    · exact Q.w02
    · exact Q.w03
    · exact Q.w10
    · exact Q.w11
    · exact Q.w12
    · exact Q.w13
    · exact Q.w20
    · exact Q.w21
    · exact Q.w22
    · exact Q.w23
    · exact Q.w30
    · exact Q.w31
    · exact Q.w32
    · exact Q.w33
    · exact Q.w40
    · exact Q.w41
    · exact Q.w42
    · exact Q.w43
  obtain ⟨H1, h⟩ := Q.isT_some (key (a % 5) (b % 4) (Int.emod_nonneg a (by omega)) (by omega) (Int.emod_nonneg b (by omega)) (by omega))
  refine ⟨H1, ?_⟩
  rw [F1_at, q4_mod _ _ _ _ ha hb, ← F1_at]
  exact h

theorem own : ownKnob Tryd.prog.godebug = none := by kernel_rfl
theorem gT : Tryd.prog.globalNamed "math/bits.deBruijn32tab" = some 0 := by kernel_rfl
theorem laid_eq : (Rows.laid_math_bits_deBruijn32tab : DataW Unit) = Lib.tabData .u8 (Q.tabs.headD []) := rfl
/-- What the condition gives a walk. -/
theorem tabs_of_laid {W : World} (h : laidMetH Tryd.prog Rows.mendWorstRow.laid W) : Q.gl.W W := by
  have h' : laidMet Tryd.prog [("math/bits.deBruijn32tab", Lib.tabData .u8 (Q.tabs.headD []))] W := h
  have htab : Lib.TabIs Tryd.prog W "math/bits.deBruijn32tab" .u8 (Q.tabs.headD []) :=
    Lib.tabIs_of_head (t := 88) (e := 5) (n := 32) gT (by kernel_rfl) Tryd.underlying88 Tryd.underlying5 (by kernel_rfl) (by kernel_rfl) h'
  intro g zs hz
  have hg : g = 0 := by
    have := (List.getElem?_eq_some_iff.1 hz).1
    have h1 : Q.tabs.length = 1 := rfl
    omega
  subst hg
  obtain ⟨t, fr, h1⟩ := tab_of_TabIs gT htab
  have : zs = Q.tabs.headD [] := (Option.some.inj hz).symm
  rw [this]
  exact ⟨t, fr, h1⟩
/-- A world that meets the condition: the settled one, the table laid. -/
noncomputable def laidWorld (os : Os) : World :=
  let w0 := World.holding Tryd.prog os ⟨#[], #[], []⟩
  { w0 with heap := w0.heap.modify 0 fun
      | .cells _ t frozen => .cells ((Q.tabs.headD []).map fun z => Value.int .u8 z).toArray t frozen
      | o => o }
theorem laidWorld_met (os : Os) (args : Array Value) : laidMetH Tryd.prog Rows.mendWorstRow.laid ((laidWorld os).forCall (fun _ _ => 0) ⟨#[], args, []⟩).memory :=
  laidMetH_of_parts ((LaidIn.of_run [0] 8 (by kernel_rfl) (by kernel_rfl) (by kernel_rfl) (by kernel_rfl)).met) (by kernel_rfl)


theorem walk (a0 : Int) (a1 : Int) (w0 : (Lit.int .u8 a0).wf = true) (w1 : (Lit.int .u8 a1).wf = true) (w : World) (hL : Q.gl.W w) :
    Calls Tryd.prog 4 #[.int .u8 a0, .int .u8 a1] w fun e w' => e = .returned (.bool true) ∧ Below w.heap.size w w' := by
  have b0 : 0 ≤ a0 ∧ a0 < 256 := by
    simp [Lit.wf, IntKind.min, IntKind.max, IntKind.signed, IntKind.bits] at w0; omega
  have b1 : 0 ≤ a1 ∧ a1 < 256 := by
    simp [Lit.wf, IntKind.min, IntKind.max, IntKind.signed, IntKind.bits] at w1; omega
  obtain ⟨H1, h⟩ := worst_ev b0 b1
  exact calls_of_eval Q.F1_sound Q.hbase h hL (.cons (.int _ _) (.cons (.int _ _) .nil))

theorem lifted (os : Os) (started : os.Started) (H : Type) (enc : TypeId × Value → H) :
    ReturnsInHanded {} Tryd.checked os 4 .any (fun w args => (Rows.mendWorstSpec.pre enc Tryd.prog Tryd.f4 [] false w args ∧ laidMetH Tryd.prog Rows.mendWorstRow.laid w) ∧ sizedMet enc Tryd.prog Tryd.f4 (OpenSpec.ofChange Rows.mendWorstSpec) false w args)
      (Rows.mendWorstSpec.post enc Tryd.prog Tryd.f4 false true false false) := by
  refine returnsInHanded_of_change_and (C := Tryd.checked) (X := fun w _ => laidMetH Tryd.prog Rows.mendWorstRow.laid w) (fun _ _ _ hh h => h.of_heap hh) own started (by kernel_rfl) Tryd.func4
    (ChangeSpec.witness_at (enc := enc) (C := Tryd.checked) (os := os) (X := fun w _ => laidMetH Tryd.prog Rows.mendWorstRow.laid w) false (laidWorld os) #[.int .u8 0, .int .u8 0] 8 rfl (by kernel_rfl) (by kernel_rfl) (by kernel_rfl) (by kernel_rfl) (by kernel_rfl) (laidWorld_met os _)) ?_
  intro W base args ds gs before hval0 hW _ _ hL _
  have hval : ∀ (j : Nat) t v, Tryd.f4.params[j]? = some t → args[j]? = some v → Value.okWide Tryd.prog W .any base t v := hval0
  have hW' := hW
  obtain ⟨p, q, hA0, hV0, rfl, hfz, hnd⟩ := hW
  have hA : DataW.TrodAll enc Tryd.prog W 0 (fun _ => true) true Tryd.f4.params.toList args.toList ds p := hA0
  rw [Tryd.params4] at hA hval
  obtain ⟨v0, vs0, d0, ds0, p0, q0, hargs, rfl, rfl, h0, r0⟩ := trodAll_cons hA
  obtain ⟨v1, vs1, d1, ds1, p1, q1, rfl, rfl, rfl, h1, r1⟩ := trodAll_cons r0
  obtain ⟨rfl, rfl, rfl⟩ := trodAll_nil r1
  obtain rfl : args = #[v0, v1] := by cases args; simp_all
  obtain ⟨rfl, rfl⟩ := trodVars_none hV0
  obtain ⟨a0, rfl, rfl, rfl, w0⟩ := open_int Tryd.underlying5 (hval 0 5 v0 rfl rfl) h0
  obtain ⟨a1, rfl, rfl, rfl, w1⟩ := open_int Tryd.underlying5 (hval 1 5 v1 rfl rfl) h1
  clear hA0 hval0
  simp only [List.append_nil] at hW'
  refine (walk a0 a1 w0 w1 W (tabs_of_laid hL)).mono fun e W' ⟨he, hg⟩ => ?_
  subst he
  exact ⟨_, rfl, _, _, _, [], [], [], hW', trodAll_mk1 (shut_bool Tryd.underlying4 true), trodAll_cons_mk (shut_int Tryd.underlying5 w0) (trodAll_cons_mk (shut_int Tryd.underlying5 w1) trodAll_mk0), rfl, hg.frame _, fun h => by cases h⟩

theorem over : Rows.mendWorstRow.holds Tryd.pinned (OpenSpec.ofChange Rows.mendWorstSpec) :=
  OpenClaim.holds_of_wide 4 Tryd.f4 rfl rfl rfl rfl rfl rfl rfl ⟨rfl, rfl, rfl, rfl, rfl⟩ rfl rfl rfl rfl rfl (by kernel_rfl) Tryd.func4 (by kernel_rfl)
    (of_decide_eq_true (by kernel_rfl)) (by unfold Func.isWrapper; first | (rw [if_pos (by decide +kernel)]; kernel_rfl) | (rw [if_neg (by decide +kernel)]; exact ⟨rfl, rfl⟩))
    (fun os started H enc _ => lifted os started H enc)

theorem mendWorst_card : Rows.MendWorstCardSaid :=
  Claim7.holds_tied_plain_at .later [] [.data] true (true, "b3e798cbf446d82692aebae673d0c0476e664c4269eda60c15df88948e96ddc1") false
    over (fun _ h => by cases h) (by kernel_rfl) (fun _ h => by cases h) mendWorst_row_tie rfl ⟨rfl, rfl⟩ (by kernel_rfl) rfl
    (fun f fn hf hfn => by
      obtain rfl : f = 4 := Option.some.inj ((show Tryd.prog.funcNamed "spadille/spadillelaw09.MendWorst" = some 4 by kernel_rfl).symm.trans hf) |>.symm
      obtain rfl : fn = Tryd.f4 := (Option.some.inj (Tryd.func4.symm.trans hfn)).symm
      exact ⟨by kernel_rfl, fun j t ht => by
        rw [Tryd.params4] at ht
        have h3 : t = 5 := by
          rcases j with _ | _ | j
          · simpa using ht.symm
          · simpa using ht.symm
          · simp at ht
        subst h3
        exact (show Tryd.prog.wantsStandIn 5 = false by kernel_rfl)⟩)
    (by kernel_rfl)
#print axioms mendWorst_card
end Go.Proofs.YtjcmbghmmdakgaaDoor
