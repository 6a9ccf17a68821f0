/- PROVED: spadilletop.TopMoved answers true at every byte and every slice of bytes and leaves its arguments as they were. Condition: the row lists math/bits.deBruijn32tab and deBruijn64tab, which the given tie ties to the text of the program. -/
import Derived.Test.YtdhghfkempgejaaGreatDoorM1
import Derived.Test.YtdhghfkempgejaaGreatDoorM2
import Derived.Test.YtdhghfkempgejaaGreatDoorCards
import Derived.Test.YtdhghfkempgejaaGreatDoorTie
import Derived.WalkKit
import Derived.ProofKit
import Derived.OpenShut
import Derived.ChangeSame
import Derived.ChangeVars
import Derived.JoinedOf
import Derived.RowKit
import Derived.RowKitTokens
import Derived.LaidLaws
import Derived.LaidHandle
import Derived.LaidSub
import Derived.Stop.Joined
import Derived.SevenTiedAt
import Derived.Lib.LaidTab
import Derived.Lib.LaidIn
import Derived.Carry
import Derived.ChangeSlices
open Go Go.Ab
namespace Go.Proofs.YtdhghfkempgejaaGreatDoor.Q
set_option maxRecDepth 1000000
set_option linter.unusedVariables false
def allMix : Nat → List Int → List (List Int)
  | 0, _ => [[]]
  | f + 1, L => if L = [] then [[]] else (List.range L.length).flatMap fun k => (allMix f (L.take k ++ L.drop (k + 1))).map fun t => L.getD k 0 :: t
theorem mixP_mem (xs : List Int) : ∀ (f i : Nat) (L : List Int), mixP xs f i L ∈ allMix f L
  | 0, i, L => by simp [mixP, allMix]
  | f + 1, i, L => by
    unfold mixP allMix
    by_cases h : L = []
    · rw [if_pos h, if_pos h]; simp
    · rw [if_neg h, if_neg h]
      refine List.mem_flatMap.2 ⟨kOf xs i L.length, List.mem_range.2 (kOf_lt xs i (List.length_pos_iff.2 h)), List.mem_map.2 ⟨_, mixP_mem xs f (i + 1) _, rfl⟩⟩
theorem mixP_nil (n i : Nat) (L : List Int) (h : L.length ≤ n) : mixP [] n i L = L := by
  induction n generalizing i L with
  | zero => have : L = [] := List.length_eq_zero_iff.1 (by omega); subst this; rfl
  | succ n ih =>
    unfold mixP
    cases L with
    | nil => rfl
    | cons a L =>
      rw [if_neg (by simp)]
      have hk : kOf [] i (a :: L).length = 0 := by simp [kOf]
      rw [hk]
      simp only [List.getD_cons_zero, List.take_zero, List.nil_append, Nat.zero_add, List.drop_succ_cons, List.drop_zero]
      rw [ih _ _ (by simpa using h)]
theorem fm {p : List Int → Prop} {a : List Int} {l : List (List Int)} (h : p a) (k : ∀ x ∈ l, p x) : ∀ x ∈ a :: l, p x := List.forall_mem_cons.2 ⟨h, k⟩
theorem fn {p : List Int → Prop} : ∀ x ∈ ([] : List (List Int)), p x := fun x h => by cases h
theorem a1 (D : List AV) : ∀ l ∈ allMix 1 (upto 1), isT (restM (Hg.push (.cells 0 0 D [] true)) l) = true := by
  rw [show allMix 1 (upto 1) = [[0]] from by decide +kernel]
  exact fm (m0 D) (fn)
theorem a2 (D : List AV) : ∀ l ∈ allMix 2 (upto 2), isT (restM (Hg.push (.cells 0 0 D [] true)) l) = true := by
  rw [show allMix 2 (upto 2) = [[0, 1], [1, 0]] from by decide +kernel]
  exact fm (m01 D) (fm (m10 D) (fn))
theorem a3 (D : List AV) : ∀ l ∈ allMix 3 (upto 3), isT (restM (Hg.push (.cells 0 0 D [] true)) l) = true := by
  rw [show allMix 3 (upto 3) = [[0, 1, 2], [0, 2, 1], [1, 0, 2], [1, 2, 0], [2, 0, 1], [2, 1, 0]] from by decide +kernel]
  exact fm (m012 D) (fm (m021 D) (fm (m102 D) (fm (m120 D) (fm (m201 D) (fm (m210 D) (fn))))))
theorem a4 (D : List AV) : ∀ l ∈ allMix 4 (upto 4), isT (restM (Hg.push (.cells 0 0 D [] true)) l) = true := by
  rw [show allMix 4 (upto 4) = [[0, 1, 2, 3], [0, 1, 3, 2], [0, 2, 1, 3], [0, 2, 3, 1], [0, 3, 1, 2], [0, 3, 2, 1], [1, 0, 2, 3], [1, 0, 3, 2], [1, 2, 0, 3], [1, 2, 3, 0], [1, 3, 0, 2], [1, 3, 2, 0], [2, 0, 1, 3], [2, 0, 3, 1], [2, 1, 0, 3], [2, 1, 3, 0], [2, 3, 0, 1], [2, 3, 1, 0], [3, 0, 1, 2], [3, 0, 2, 1], [3, 1, 0, 2], [3, 1, 2, 0], [3, 2, 0, 1], [3, 2, 1, 0]] from by decide +kernel]
  exact fm (m0123 D) (fm (m0132 D) (fm (m0213 D) (fm (m0231 D) (fm (m0312 D) (fm (m0321 D) (fm (m1023 D) (fm (m1032 D) (fm (m1203 D) (fm (m1230 D) (fm (m1302 D) (fm (m1320 D) (fm (m2013 D) (fm (m2031 D) (fm (m2103 D) (fm (m2130 D) (fm (m2301 D) (fm (m2310 D) (fm (m3012 D) (fm (m3021 D) (fm (m3102 D) (fm (m3120 D) (fm (m3201 D) (fm (m3210 D) (fn))))))))))))))))))))))))
theorem a5 (D : List AV) : ∀ l ∈ allMix 5 (upto 5), isT (restM (Hg.push (.cells 0 0 D [] true)) l) = true := by
  rw [show allMix 5 (upto 5) = [[0, 1, 2, 3, 4], [0, 1, 2, 4, 3], [0, 1, 3, 2, 4], [0, 1, 3, 4, 2], [0, 1, 4, 2, 3], [0, 1, 4, 3, 2], [0, 2, 1, 3, 4], [0, 2, 1, 4, 3], [0, 2, 3, 1, 4], [0, 2, 3, 4, 1], [0, 2, 4, 1, 3], [0, 2, 4, 3, 1], [0, 3, 1, 2, 4], [0, 3, 1, 4, 2], [0, 3, 2, 1, 4], [0, 3, 2, 4, 1], [0, 3, 4, 1, 2], [0, 3, 4, 2, 1], [0, 4, 1, 2, 3], [0, 4, 1, 3, 2], [0, 4, 2, 1, 3], [0, 4, 2, 3, 1], [0, 4, 3, 1, 2], [0, 4, 3, 2, 1], [1, 0, 2, 3, 4], [1, 0, 2, 4, 3], [1, 0, 3, 2, 4], [1, 0, 3, 4, 2], [1, 0, 4, 2, 3], [1, 0, 4, 3, 2], [1, 2, 0, 3, 4], [1, 2, 0, 4, 3], [1, 2, 3, 0, 4], [1, 2, 3, 4, 0], [1, 2, 4, 0, 3], [1, 2, 4, 3, 0], [1, 3, 0, 2, 4], [1, 3, 0, 4, 2], [1, 3, 2, 0, 4], [1, 3, 2, 4, 0], [1, 3, 4, 0, 2], [1, 3, 4, 2, 0], [1, 4, 0, 2, 3], [1, 4, 0, 3, 2], [1, 4, 2, 0, 3], [1, 4, 2, 3, 0], [1, 4, 3, 0, 2], [1, 4, 3, 2, 0], [2, 0, 1, 3, 4], [2, 0, 1, 4, 3], [2, 0, 3, 1, 4], [2, 0, 3, 4, 1], [2, 0, 4, 1, 3], [2, 0, 4, 3, 1], [2, 1, 0, 3, 4], [2, 1, 0, 4, 3], [2, 1, 3, 0, 4], [2, 1, 3, 4, 0], [2, 1, 4, 0, 3], [2, 1, 4, 3, 0], [2, 3, 0, 1, 4], [2, 3, 0, 4, 1], [2, 3, 1, 0, 4], [2, 3, 1, 4, 0], [2, 3, 4, 0, 1], [2, 3, 4, 1, 0], [2, 4, 0, 1, 3], [2, 4, 0, 3, 1], [2, 4, 1, 0, 3], [2, 4, 1, 3, 0], [2, 4, 3, 0, 1], [2, 4, 3, 1, 0], [3, 0, 1, 2, 4], [3, 0, 1, 4, 2], [3, 0, 2, 1, 4], [3, 0, 2, 4, 1], [3, 0, 4, 1, 2], [3, 0, 4, 2, 1], [3, 1, 0, 2, 4], [3, 1, 0, 4, 2], [3, 1, 2, 0, 4], [3, 1, 2, 4, 0], [3, 1, 4, 0, 2], [3, 1, 4, 2, 0], [3, 2, 0, 1, 4], [3, 2, 0, 4, 1], [3, 2, 1, 0, 4], [3, 2, 1, 4, 0], [3, 2, 4, 0, 1], [3, 2, 4, 1, 0], [3, 4, 0, 1, 2], [3, 4, 0, 2, 1], [3, 4, 1, 0, 2], [3, 4, 1, 2, 0], [3, 4, 2, 0, 1], [3, 4, 2, 1, 0], [4, 0, 1, 2, 3], [4, 0, 1, 3, 2], [4, 0, 2, 1, 3], [4, 0, 2, 3, 1], [4, 0, 3, 1, 2], [4, 0, 3, 2, 1], [4, 1, 0, 2, 3], [4, 1, 0, 3, 2], [4, 1, 2, 0, 3], [4, 1, 2, 3, 0], [4, 1, 3, 0, 2], [4, 1, 3, 2, 0], [4, 2, 0, 1, 3], [4, 2, 0, 3, 1], [4, 2, 1, 0, 3], [4, 2, 1, 3, 0], [4, 2, 3, 0, 1], [4, 2, 3, 1, 0], [4, 3, 0, 1, 2], [4, 3, 0, 2, 1], [4, 3, 1, 0, 2], [4, 3, 1, 2, 0], [4, 3, 2, 0, 1], [4, 3, 2, 1, 0]] from by decide +kernel]
  exact fm (m01234 D) (fm (m01243 D) (fm (m01324 D) (fm (m01342 D) (fm (m01423 D) (fm (m01432 D) (fm (m02134 D) (fm (m02143 D) (fm (m02314 D) (fm (m02341 D) (fm (m02413 D) (fm (m02431 D) (fm (m03124 D) (fm (m03142 D) (fm (m03214 D) (fm (m03241 D) (fm (m03412 D) (fm (m03421 D) (fm (m04123 D) (fm (m04132 D) (fm (m04213 D) (fm (m04231 D) (fm (m04312 D) (fm (m04321 D) (fm (m10234 D) (fm (m10243 D) (fm (m10324 D) (fm (m10342 D) (fm (m10423 D) (fm (m10432 D) (fm (m12034 D) (fm (m12043 D) (fm (m12304 D) (fm (m12340 D) (fm (m12403 D) (fm (m12430 D) (fm (m13024 D) (fm (m13042 D) (fm (m13204 D) (fm (m13240 D) (fm (m13402 D) (fm (m13420 D) (fm (m14023 D) (fm (m14032 D) (fm (m14203 D) (fm (m14230 D) (fm (m14302 D) (fm (m14320 D) (fm (m20134 D) (fm (m20143 D) (fm (m20314 D) (fm (m20341 D) (fm (m20413 D) (fm (m20431 D) (fm (m21034 D) (fm (m21043 D) (fm (m21304 D) (fm (m21340 D) (fm (m21403 D) (fm (m21430 D) (fm (m23014 D) (fm (m23041 D) (fm (m23104 D) (fm (m23140 D) (fm (m23401 D) (fm (m23410 D) (fm (m24013 D) (fm (m24031 D) (fm (m24103 D) (fm (m24130 D) (fm (m24301 D) (fm (m24310 D) (fm (m30124 D) (fm (m30142 D) (fm (m30214 D) (fm (m30241 D) (fm (m30412 D) (fm (m30421 D) (fm (m31024 D) (fm (m31042 D) (fm (m31204 D) (fm (m31240 D) (fm (m31402 D) (fm (m31420 D) (fm (m32014 D) (fm (m32041 D) (fm (m32104 D) (fm (m32140 D) (fm (m32401 D) (fm (m32410 D) (fm (m34012 D) (fm (m34021 D) (fm (m34102 D) (fm (m34120 D) (fm (m34201 D) (fm (m34210 D) (fm (m40123 D) (fm (m40132 D) (fm (m40213 D) (fm (m40231 D) (fm (m40312 D) (fm (m40321 D) (fm (m41023 D) (fm (m41032 D) (fm (m41203 D) (fm (m41230 D) (fm (m41302 D) (fm (m41320 D) (fm (m42013 D) (fm (m42031 D) (fm (m42103 D) (fm (m42130 D) (fm (m42301 D) (fm (m42310 D) (fm (m43012 D) (fm (m43021 D) (fm (m43102 D) (fm (m43120 D) (fm (m43201 D) (fm (m43210 D) (fn))))))))))))))))))))))))))))))))))))))))))))))))))))))))))))))))))))))))))))))))))))))))))))))))))))))))))))))))))))))))
theorem all_ev (D : List AV) {n : Nat} (h1 : 1 ≤ n) (h2 : n ≤ 5) (xs : List Int) : isT (restM (Hg.push (.cells 0 0 D [] true)) (mixP xs n 0 (upto n))) = true := by
  obtain rfl | rfl | rfl | rfl | rfl : n = 1 ∨ n = 2 ∨ n = 3 ∨ n = 4 ∨ n = 5 := by omega
  · exact a1 D _ (mixP_mem _ _ _ _)
  · exact a2 D _ (mixP_mem _ _ _ _)
  · exact a3 D _ (mixP_mem _ _ _ _)
  · exact a4 D _ (mixP_mem _ _ _ _)
  · exact a5 D _ (mixP_mem _ _ _ _)
theorem all_nil {n : Nat} (h1 : 1 ≤ n) (h2 : n ≤ 5) : isT (restM Hg (mixP [] n 0 (upto n))) = true := by
  rw [mixP_nil n 0 _ (by simp [upto])]
  obtain rfl | rfl | rfl | rfl | rfl : n = 1 ∨ n = 2 ∨ n = 3 ∨ n = 4 ∨ n = 5 := by omega
  · exact z1
  · exact z2
  · exact z3
  · exact z4
  · exact z5
theorem mixP_ne (xs : List Int) {n : Nat} (h : 1 ≤ n) : mixP xs n 0 (upto n) ≠ [] := by
  cases n with
  | zero => omega
  | succ n =>
    unfold mixP
    rw [if_neg (by simp [upto])]
    simp
end Go.Proofs.YtdhghfkempgejaaGreatDoor.Q

open Go Go.Ab
namespace Go.Proofs.YtdhghfkempgejaaGreatDoor.Q
set_option maxRecDepth 1000000
set_option linter.unusedVariables false
theorem flats1_bytes : ∀ l : List Int, flats1 (bytes l) = true
  | [] => rfl
  | _ :: l => flats1_bytes l
theorem flats1_ints : ∀ l : List Int, flats1 (ints l) = true
  | [] => rfl
  | _ :: l => flats1_ints l
theorem row_bytes (H : Heap) (xs : List Int) : (H.push (.cells 0 0 (bytes xs) [] true)).row ⟨H.size, 0, 0⟩ xs.length = some (bytes xs) := by
  have h := (Rd.new (H := H) (e := 0) (l := bytes xs) (ro := true) (.known 0)).row
  have h2 : srcRow (H.push (.cells 0 0 (bytes xs) [] true)) 1 (some ⟨H.size, 0, 0⟩) (bytes xs).length = (H.push (.cells 0 0 (bytes xs) [] true)).row ⟨H.size, 0, 0⟩ (Nat.mul (bytes xs).length 1) := rfl
  rw [show (bytes xs).length = xs.length from by simp [bytes], show Nat.mul xs.length 1 = xs.length from Nat.mul_one _] at h2
  rw [← h2]
  simpa [bytes] using h
/-- The result is handed on. -/
theorem give_out {H1 : Heap} {v6 : Sl} {l : List Int} (h : OutS H1 v6 l) (hl : l ≠ []) (n : Nat) : ∃ b, give3 H1 n (.sl v6) = some (.sl ⟨some ⟨n, 0, 0⟩, l.length, .unk 1⟩, [(b, .cells 3 0 (ints l) [] false)]) := by
  rcases h.or with ⟨h, _⟩ | ⟨b, g, old, rfl, hb⟩
  · exact absurd h hl
  · refine ⟨b, ?_⟩
    show giveC (H1.get b) g (fun x => some (.sl ⟨some ⟨n, 0, 0⟩, l.length, .unk 1⟩, [(b, x)])) = _
    rw [hb]
    show br false none (br (Nat.beq g g) (br (flats1 (ints l)) _ none) none) = _
    rw [br_false, show Nat.beq g g = true from Nat.beq_refl g, br_true, flats1_ints, br_true]
theorem call5 (F : FTab) {Hs : Heap} {sl : Sl} {us : Sl} {bs : List (List AV)} {n : Nat} (h1 : 1 ≤ n) (h2 : n ≤ 5) {xs : List Int} (hxs : ∀ x ∈ xs, 0 ≤ x ∧ x < 256)
    (hc : canonA Hs [.int .i64 (n : Int), .sl sl] Hg.size = some ([.int .i64 (n : Int), .sl us], bs)) (hx : Rd (pushRo bs Hg) us (bytes xs)) :
    frameG Hg (q5_A 100000) F [.int .i64 (n : Int), .sl sl] Hs = some (.sl ⟨some ⟨Hs.size, 0, 0⟩, (mixP xs n 0 (upto n)).length, .unk 1⟩, Hs.push (.cells 3 0 (ints (mixP xs n 0 (upto n))) [] false)) := by
  obtain ⟨v6, H', hO, hr⟩ := q5_run F (n := n) (by omega) hxs hx pairK
  obtain ⟨b, hg⟩ := give_out hO (mixP_ne xs h1) Hs.size
  unfold frameG
  rw [hc, Option.bind_some]
  show ((q5_S F 100000 (n : Int) us (pushRo bs Hg) pairK).bind _) = _
  rw [hr]
  show ((give3 H' Hs.size (.sl v6)).bind _) = _
  rw [hg]
  rfl
theorem F1_3 (a : Int) (s : Sl) (H : Heap) : F1 3 [.int .u8 a, .sl s] H = q3_S F2 100000 a s H pairK := by kernel_rfl
theorem F2_5 (args : List AV) (H : Heap) : F2 5 args H = frameG Hg (q5_A 100000) (ftab disp1 38) args H := by kernel_rfl
theorem wr_u8 {a : Int} (h0 : 0 ≤ a) (h1 : a < 256) : wr .i64 a = a := by rw [wr_eq, wrap_in .i64 a (by simp only [lo]; omega) (by simp only [hi]; omega)]
theorem q3_at {a : Int} (ha : 0 ≤ a ∧ a < 256) (s : Sl) (H : Heap) {l : List Int} (h5 : F2 5 [.int .i64 ((1 + (a % 5).toNat : Nat) : Int), .sl s] H = some (.sl ⟨some ⟨H.size, 0, 0⟩, l.length, .unk 1⟩, H.push (.cells 3 0 (ints l) [] false))) :
    q3_S F2 100000 a s H pairK = restM H l := by
  have hm := Int.emod_nonneg a (show (5 : Int) ≠ 0 by omega)
  have hm2 := Int.emod_lt_of_pos a (show (0 : Int) < 5 by omega)
  unfold q3_S
  rw [wr_u8 ha.1 ha.2, bindI_eq, show eqI (5 : Int) 0 = false from rfl, br_false, Int.tmod_eq_emod_of_nonneg ha.1, bindI_eq, wr_u8 (by omega) (by omega), bindI_eq]
  rw [show (1 : Int) + a % 5 = ((1 + (a % 5).toNat : Nat) : Int) from by omega, h5]
  rfl
theorem canon_some {Hs : Heap} {b o m : Nat} {c : Cap} {xs : List Int} (n : Int) (h : Hs.row ⟨b, 0, o⟩ m = some (bytes xs)) :
    canonA Hs [.int .i64 n, .sl ⟨some ⟨b, 0, o⟩, m, c⟩] Hg.size = some ([.int .i64 n, .sl ⟨some ⟨Hg.size, 0, 0⟩, m, c⟩], [bytes xs]) := by
  show (((Hs.row ⟨b, 0, o⟩ m).bind fun l => br (flats1 l) (some ((.sl ⟨some ⟨Hg.size, 0, 0⟩, m, c⟩ : AV), [l])) none).bind _).bind _ = _
  rw [h, Option.bind_some, flats1_bytes, br_true]
  rfl
theorem moved_ev {a : Int} (ha : 0 ≤ a ∧ a < 256) {xs : List Int} (hxs : ∀ x ∈ xs, 0 ≤ x ∧ x < 256) (c : Nat) :
    ∃ H1, F1 3 [.int .u8 a, .sl ⟨some ⟨Hg.size, 0, 0⟩, xs.length, .known c⟩] (pushRo [bytes xs] Hg) = some (.bool true, H1) := by
  have hm := Int.emod_nonneg a (show (5 : Int) ≠ 0 by omega)
  have hm2 := Int.emod_lt_of_pos a (show (0 : Int) < 5 by omega)
  have hrow := row_bytes Hg xs
  have h5 := call5 (ftab disp1 38) (n := 1 + (a % 5).toNat) (by omega) (by omega) hxs (canon_some _ hrow) (by
    have := Rd.new (H := Hg) (e := 0) (l := bytes xs) (ro := true) (.known c)
    rw [show (bytes xs).length = xs.length from by simp [bytes]] at this
    exact this)
  rw [← F2_5] at h5
  rw [F1_3]
  have h6 := q3_at ha _ _ h5
  obtain ⟨H1, h7⟩ := isT_some (all_ev (bytes xs) (n := 1 + (a % 5).toNat) (by omega) (by omega) xs)
  exact ⟨H1, h6.trans h7⟩
theorem moved_nil {a : Int} (ha : 0 ≤ a ∧ a < 256) :
    ∃ H1, F1 3 [.int .u8 a, .sl ⟨none, 0, .known 0⟩] Hg = some (.bool true, H1) := by
  have hm := Int.emod_nonneg a (show (5 : Int) ≠ 0 by omega)
  have hm2 := Int.emod_lt_of_pos a (show (0 : Int) < 5 by omega)
  have h5 := call5 (ftab disp1 38) (Hs := Hg) (sl := ⟨none, 0, .known 0⟩) (us := ⟨none, 0, .known 0⟩) (bs := []) (n := 1 + (a % 5).toNat) (by omega) (by omega) (xs := []) (fun x h => by cases h) rfl Rd.nil
  rw [← F2_5] at h5
  rw [F1_3]
  have h6 := q3_at ha _ _ h5
  obtain ⟨H1, h7⟩ := isT_some (all_nil (n := 1 + (a % 5).toNat) (by omega) (by omega))
  exact ⟨H1, h6.trans h7⟩
end Go.Proofs.YtdhghfkempgejaaGreatDoor.Q

open Go Go.Ab
namespace Go.Proofs.YtdhghfkempgejaaGreatDoor
open Go.ChangeShapes Go.WideShapes Go.ChangeAt Go.RowKit
set_option maxRecDepth 1000000
set_option linter.unusedVariables false

theorem own : ownKnob Tryz.prog.godebug = none := by kernel_rfl
theorem laidOut : laidOutB Tryz.prog = true := by kernel_rfl
theorem cells5 : Tryz.prog.cellsOf 5 = 1 := by kernel_rfl
theorem gT0 : Tryz.prog.globalNamed "math/bits.deBruijn32tab" = some 0 := by kernel_rfl
theorem gT1 : Tryz.prog.globalNamed "math/bits.deBruijn64tab" = some 1 := by kernel_rfl
theorem laid_eq0 : (Rows.laid_math_bits_deBruijn32tab : DataW Unit) = Lib.tabData .u8 (Q.tabs.getD 0 []) := rfl
theorem laid_eq1 : (Rows.laid_math_bits_deBruijn64tab : DataW Unit) = Lib.tabData .u8 (Q.tabs.getD 1 []) := rfl
/-- What the condition gives a walk. -/
theorem tabs_of_laid {W : World} (h : laidMetH Tryz.prog Rows.topMovedRow.laid W) : Q.gl.W W := by
  have h' : laidMet Tryz.prog [("math/bits.deBruijn32tab", Lib.tabData .u8 (Q.tabs.getD 0 [])), ("math/bits.deBruijn64tab", Lib.tabData .u8 (Q.tabs.getD 1 []))] W := h
  have h1 : laidMet Tryz.prog [("math/bits.deBruijn64tab", Lib.tabData .u8 (Q.tabs.getD 1 []))] W := by
    have := h'.filter fun x => x.1 == "math/bits.deBruijn64tab"
    rw [show ([("math/bits.deBruijn32tab", Lib.tabData .u8 (Q.tabs.getD 0 [])), ("math/bits.deBruijn64tab", Lib.tabData .u8 (Q.tabs.getD 1 []))] : List (String × DataW Unit)).filter (fun x => x.1 == "math/bits.deBruijn64tab") = [("math/bits.deBruijn64tab", Lib.tabData .u8 (Q.tabs.getD 1 []))] from by kernel_rfl] at this
    exact this
  have htab0 : Lib.TabIs Tryz.prog W "math/bits.deBruijn32tab" .u8 (Q.tabs.getD 0 []) :=
    Lib.tabIs_of_head (t := 105) (e := 5) (n := 32) gT0 (by kernel_rfl) Tryz.underlying105 Tryz.underlying5 (by kernel_rfl) (by kernel_rfl) h'
  have htab1 : Lib.TabIs Tryz.prog W "math/bits.deBruijn64tab" .u8 (Q.tabs.getD 1 []) :=
    Lib.tabIs_of_head (t := 135) (e := 5) (n := 64) gT1 (by kernel_rfl) Tryz.underlying135 Tryz.underlying5 (by kernel_rfl) (by kernel_rfl) h1
  intro g zs hz
  have hg : g = 0 ∨ g = 1 := by
    have := (List.getElem?_eq_some_iff.1 hz).1
    have h1 : Q.tabs.length = 2 := rfl
    omega
  rcases hg with rfl | rfl
  · obtain ⟨t, fr, h1⟩ := tab_of_TabIs gT0 htab0
    have : zs = Q.tabs.getD 0 [] := (Option.some.inj hz).symm
    rw [this]
    exact ⟨t, fr, h1⟩
  · obtain ⟨t, fr, h1⟩ := tab_of_TabIs gT1 htab1
    have : zs = Q.tabs.getD 1 [] := (Option.some.inj hz).symm
    rw [this]
    exact ⟨t, fr, h1⟩
/-- A world that meets the condition: the settled one, the tables laid. -/
noncomputable def laidWorld (os : Os) : World :=
  let w0 := World.holding Tryz.prog os ⟨#[], #[], []⟩
  { w0 with heap := (w0.heap.modify 0 fun
      | .cells _ t frozen => .cells ((Q.tabs.getD 0 []).map fun z => Value.int .u8 z).toArray t frozen
      | o => o).modify 1 fun
      | .cells _ t frozen => .cells ((Q.tabs.getD 1 []).map fun z => Value.int .u8 z).toArray t frozen
      | o => o }
theorem laidWorld_met (os : Os) (args : Array Value) : laidMetH Tryz.prog Rows.topMovedRow.laid ((laidWorld os).forCall (fun _ _ => 0) ⟨#[], args, []⟩).memory :=
  laidMetH_of_parts ((LaidIn.of_run [0, 1] 8 (by kernel_rfl) (by kernel_rfl) (by kernel_rfl) (by kernel_rfl)).met) (by kernel_rfl)

/-- A slice of bytes, opened. -/
theorem opened {H : Type} {enc : TypeId × Value → H} {W : World} {a0 : Option Addr} {len cap : Nat} {d0 : DataW H} {p : List MemPlace}
    (h0 : DataW.Trod enc Tryz.prog W 0 (fun _ => true) true 22 (.slice a0 len cap) d0 p) :
    (a0 = none ∧ len = 0 ∧ cap = 0) ∨ ∃ (a : Addr) (xs : List Int), a0 = some a ∧ xs.length = cap ∧ len ≤ cap ∧ (∀ x ∈ xs, 0 ≤ x ∧ x < 256) ∧ ∀ (i : Nat) (h : i < cap), W.cell? (a.add i) = some (.int .u8 (xs.getD i 0)) := by
  obtain ⟨fuel, hf⟩ := h0
  rcases open_ints Tryz.underlying22 Tryz.underlying5 cells5 hf with ⟨hcs, hx⟩ | ⟨a, len', cap', zs, hcs, _, hl, hm, hz, hx, hcell, hwz⟩
  · simp [Value.cells] at hcs
    exact .inl hcs
  · simp [Value.cells] at hcs
    obtain ⟨rfl, rfl, rfl⟩ := hcs
    simp only [if_true] at hz
    refine .inr ⟨a, zs, rfl, by omega, by omega, fun x hx => ?_, fun i hi => hcell i (by omega)⟩
    have := hwz x hx
    simp [Lit.wf, IntKind.min, IntKind.max, IntKind.signed, IntKind.bits] at this; omega

theorem walk_at {a : Int} (ha : 0 ≤ a ∧ a < 256) {xs : List Int} (hxs : ∀ x ∈ xs, 0 ≤ x ∧ x < 256) {W : World} (hL : Q.gl.W W) {l : Ab.Loc} {v : Value} {c : Nat} (hl : GoodRo Tryz.prog W l (Q.bytes xs))
    (hv : ∀ ρ : Ren, ρ Q.Hg.size 0 = some l → VR ρ (.sl ⟨some ⟨Q.Hg.size, 0, 0⟩, xs.length, .known c⟩) v) :
    Calls Tryz.prog 3 #[.int .u8 a, v] W fun e w' => e = .returned (.bool true) ∧ Below W.heap.size W w' := by
  obtain ⟨H1, h⟩ := Q.moved_ev ha hxs c
  have hf : Fits Tryz.prog W Q.Hg.size [l] [Q.bytes xs] := ⟨rfl, fun i l' D h1 h2 => by
    cases i with
    | zero => cases h1; cases h2; exact hl
    | succ i => simp at h1⟩
  obtain ⟨hrep, hg⟩ := frame_rep Q.hbase hL hf
  have hρ : ρFrame (ρTabs Q.tabs W) Q.Hg.size [l] Q.Hg.size 0 = some l := by
    unfold ρFrame
    rw [if_neg (Nat.lt_irrefl _), if_pos rfl, Nat.sub_self]
    rfl
  refine ((Q.F1_sound 3 _ _ _ H1 h).2 W _ W #[.int .u8 a, v] hrep (.cons (.int _ _) (.cons (hv _ hρ) .nil)) hg).mono ?_
  rintro e w' ⟨ρ', v', rfl, _, hr, hv'⟩
  cases hv'
  exact ⟨rfl, hr.below⟩
theorem walk (a0 : Int) (w0 : (Lit.int .u8 a0).wf = true) {H : Type} {enc : TypeId × Value → H} {W : World} (hL : Q.gl.W W) {a1 : Option Addr} {len cap : Nat} {d : DataW H} {p : List MemPlace}
    (h1 : DataW.Trod enc Tryz.prog W 0 (fun _ => true) true 22 (.slice a1 len cap) d p) :
    Calls Tryz.prog 3 #[.int .u8 a0, .slice a1 len cap] W fun e w' => e = .returned (.bool true) ∧ Below W.heap.size W w' := by
  have b0 : 0 ≤ a0 ∧ a0 < 256 := by
    simp [Lit.wf, IntKind.min, IntKind.max, IntKind.signed, IntKind.bits] at w0; omega
  rcases opened h1 with ⟨rfl, rfl, rfl⟩ | ⟨a, zs, rfl, hz, hlc, hzs, hcell⟩
  · obtain ⟨H1, h⟩ := Q.moved_nil b0
    exact calls_of_eval Q.F1_sound Q.hbase h hL (.cons (.int _ _) (.cons (.nilSl _ _) .nil))
  · by_cases hc : cap = 0
    · have hl0 : len = 0 := by omega
      rw [hc, hl0]
      obtain ⟨t, fr, ht⟩ := hL 0 (Q.tabs.getD 0 []) rfl
      refine walk_at b0 (xs := []) (fun x h => by cases h) hL (l := ⟨0, 0, 0, 32⟩) (c := 0) ⟨rfl, by simp, (Array.getElem?_eq_some_iff.1 ht).1, _, fr, t, ht, by rfl, fun o h => by simp at h⟩ fun ρ hρ => ?_
      exact .slE _ _ hρ (Nat.le_refl _) rfl
    · have hc0 := hcell 0 (by omega)
      have hcl := hcell (cap - 1) (by omega)
      have h00 : a.add 0 = a := rfl
      rw [h00] at hc0
      unfold World.cell? at hc0
      split at hc0
      · rename_i cs e fr hb
        split at hc0
        · cases hc0
        · rename_i hsp
          obtain ⟨blk, off, spot⟩ := a
          have hspot : spot = none := by cases spot with
            | none => rfl
            | some s => simp at hsp
          rw [hspot] at hcell ⊢
          have hat : ∀ i, i < cap → cs[off + i]? = some (.int .u8 (zs.getD i 0)) := by
            intro i hi
            have h := hcell i hi
            have hadd : (⟨blk, off, none⟩ : Addr).add i = ⟨blk, off + i, none⟩ := by
              unfold Addr.add
              split
              · rename_i h0; rw [h0]; rfl
              · rfl
            rw [hadd] at h
            unfold World.cell? at h
            rw [show W.heap[(⟨blk, off + i, none⟩ : Addr).block]? = some (.cells cs e fr) from hb] at h
            simpa using h
          have hsz : off + cap ≤ cs.size := by
            have := (Array.getElem?_eq_some_iff.1 (hat (cap - 1) (by omega))).1
            omega
          have hlen : (zs.take len).length = len := by rw [List.length_take]; omega
          have hw := walk_at b0 (xs := zs.take len) (fun x hx => hzs x (List.mem_of_mem_take hx)) hL (l := ⟨blk, 0, off, cs.size⟩) (v := .slice (some ⟨blk, off, none⟩) len cap) (c := cap)
            ⟨rfl, by show off + (Q.bytes (zs.take len)).length ≤ cs.size; simp only [Q.bytes, List.length_map, hlen]; omega, (Array.getElem?_eq_some_iff.1 hb).1, cs, fr, e, hb, rfl, fun o ho => by
              have ho' : o < len := by simpa only [Q.bytes, List.length_map, hlen] using ho
              refine ⟨.int .u8 (zs.getD o 0), .int .u8 (zs.getD o 0), ?_, hat o (by omega), fun ρ => .int _ _⟩
              have hoz : o < zs.length := by omega
              simp [Q.bytes, ho', hoz, List.getD]⟩
            (fun ρ hρ => by rw [hlen]; exact .sl (l := ⟨blk, 0, off, cs.size⟩) len cap hρ (Nat.le_refl _))
          exact hw
      · cases hc0

theorem lifted (os : Os) (started : os.Started) (H : Type) (enc : TypeId × Value → H) :
    ReturnsInHanded {} Tryz.checked os 3 .any (fun w args => (Rows.topMovedSpec.pre enc Tryz.prog Tryz.f3 [] false w args ∧ laidMetH Tryz.prog Rows.topMovedRow.laid w) ∧ sizedMet enc Tryz.prog Tryz.f3 (OpenSpec.ofChange Rows.topMovedSpec) false w args)
      (Rows.topMovedSpec.post enc Tryz.prog Tryz.f3 false true false false) := by
  refine returnsInHanded_of_change_and (C := Tryz.checked) (X := fun w _ => laidMetH Tryz.prog Rows.topMovedRow.laid w) (fun _ _ _ hh h => h.of_heap hh) own started (by kernel_rfl) Tryz.func3
    (ChangeSpec.witness_at (enc := enc) (C := Tryz.checked) (os := os) (X := fun w _ => laidMetH Tryz.prog Rows.topMovedRow.laid w) false (laidWorld os) #[.int .u8 0, .slice none 0 0] 8 rfl (by kernel_rfl) (by kernel_rfl) (by kernel_rfl) (by kernel_rfl) (by kernel_rfl) (laidWorld_met os _)) ?_
  intro W base args ds gs before hval0 hW _ _ hL _
  have hval : ∀ (j : Nat) t v, Tryz.f3.params[j]? = some t → args[j]? = some v → Value.okWide Tryz.prog W .any base t v := hval0
  have hW' := hW
  obtain ⟨p, q, hA0, hV0, rfl, hfz, hnd⟩ := hW
  have hA : DataW.TrodAll enc Tryz.prog W 0 (fun _ => true) true Tryz.f3.params.toList args.toList ds p := hA0
  rw [Tryz.params3] at hA hval
  obtain ⟨v0, v1, d0, d1, p0, p1, rfl, rfl, rfl, h0, h1⟩ := trodAll_two hA
  obtain ⟨rfl, rfl⟩ := trodVars_none hV0
  obtain ⟨a0, rfl, rfl, rfl, w0⟩ := open_int Tryz.underlying5 (hval 0 5 v0 rfl rfl) h0
  obtain ⟨a1, len1, cap1, rfl⟩ := okWide_slice Tryz.underlying22 (hval 1 22 v1 rfl rfl)
  clear hA0 hval0
  simp only [List.append_nil] at hW'
  have hlt : ∀ x ∈ p1, x.block < W.heap.size := fun x hx => by simpa using hW'.lt x (by simp [hx])
  refine (walk a0 w0 (tabs_of_laid hL) h1).mono fun e W' ⟨he, hg⟩ => ?_
  subst he
  have harg1 : DataW.Trod enc Tryz.prog W' 0 (fun b => decide (b < W.heap.size)) true 22 (.slice a1 len1 cap1) d1 p1 :=
    Below.trod laidOut (by kernel_rfl) (of_decide_eq_true (by kernel_rfl)) h1 hg hlt
  exact ⟨_, rfl, _, _, _, [], _, [], hW', trodAll_mk1 (shut_bool Tryz.underlying4 true), trodAll_cons_mk (shut_int Tryz.underlying5 w0) (trodAll_cons_mk harg1 trodAll_mk0), rfl, hg.frame _, fun h => by cases h⟩

theorem over : Rows.topMovedRow.holds Tryz.pinned (OpenSpec.ofChange Rows.topMovedSpec) :=
  OpenClaim.holds_of_wide 3 Tryz.f3 rfl rfl rfl rfl rfl rfl rfl ⟨rfl, rfl, rfl, rfl, rfl⟩ rfl rfl rfl rfl rfl (by kernel_rfl) Tryz.func3 (by kernel_rfl)
    (of_decide_eq_true (by kernel_rfl)) (by unfold Func.isWrapper; first | (rw [if_pos (by decide +kernel)]; kernel_rfl) | (rw [if_neg (by decide +kernel)]; exact ⟨rfl, rfl⟩))
    (fun os started H enc _ => lifted os started H enc)

theorem topMoved_card : Rows.TopMovedCardSaid :=
  Claim7.holds_tied_plain_at .later [] [.data, .data] true (true, "85c0c9a8998ec201d2a7eea80a2e79791bd9644526ececa18ab8ed4e507888e4") false
    over (fun _ h => by cases h) (by kernel_rfl) (fun _ h => by cases h) topMoved_row_tie rfl ⟨rfl, rfl⟩ (by kernel_rfl) rfl
    (fun f fn hf hfn => by
      obtain rfl : f = 3 := Option.some.inj ((show Tryz.prog.funcNamed "spadille/spadilletop.TopMoved" = some 3 by kernel_rfl).symm.trans hf) |>.symm
      obtain rfl : fn = Tryz.f3 := (Option.some.inj (Tryz.func3.symm.trans hfn)).symm
      exact ⟨by kernel_rfl, fun j t ht => by
        rw [Tryz.params3] at ht
        have h3 : t = 5 ∨ t = 22 := by
          rcases j with _ | _ | j
          · left; simpa using ht.symm
          · right; simpa using ht.symm
          · simp at ht
        rcases h3 with rfl | rfl
        · exact (show Tryz.prog.wantsStandIn 5 = false by kernel_rfl)
        · exact (show Tryz.prog.wantsStandIn 22 = false by kernel_rfl)⟩)
    (by kernel_rfl)
#print axioms topMoved_card
end Go.Proofs.YtdhghfkempgejaaGreatDoor
