/- Part of a proof of a law of this seat: see the last text. -/
import Derived.Test.YtjcmbghmmdakgaaDoorD1
import Derived.Test.YtjcmbghmmdakgaaDoorD2
import Derived.Test.YtjcmbghmmdakgaaDoorD3
import Derived.Test.YtjcmbghmmdakgaaDoorD4
import Derived.Test.YtjcmbghmmdakgaaDoorD5
open Go Go.Ab
namespace Go.Proofs.YtjcmbghmmdakgaaDoor.Q
set_option maxRecDepth 1000000
set_option linter.unusedVariables false
def rowsT : List DRow := rows0 ++ rows1 ++ rows2 ++ rows3 ++ rows4
theorem rowsT_ok : ∀ r ∈ rowsT, RowOK r := by
  intro r hr
  unfold rowsT at hr
  simp only [List.mem_append] at hr
  rcases hr with (((hr | hr) | hr) | hr) | hr
  · exact rows0_ok r hr
  · exact rows1_ok r hr
  · exact rows2_ok r hr
  · exact rows3_ok r hr
  · exact rows4_ok r hr
noncomputable def eqD (D : List AV) : List Int → Bool := List.rec (fun zs => match zs with | [] => true | _ => false) (fun v _ ih zs => match zs with
  | [] => false
  | z :: zs => match asI .i64 v with
    | some n => br (eqI n z) (ih zs) false
    | none => false) D
theorem eqD_eq : ∀ {D : List AV} {zs : List Int}, eqD D zs = true → D = zs.map (AV.int .i64)
  | [], [], _ => rfl
  | [], _ :: _, h => by cases h
  | v :: D, [], h => by cases h
  | v :: D, z :: zs, h => by
    have h' : (match asI .i64 v with | some n => br (eqI n z) (eqD D zs) false | none => false) = true := h
    split at h'
    · rename_i n hn
      cases hq : eqI n z with
      | false => rw [hq] at h'; cases h'
      | true =>
        rw [hq] at h'
        rw [eqI_dec] at hq
        have := of_decide_eq_true hq
        rw [asI_some hn, this, eqD_eq h']; rfl
    · cases h'
noncomputable def findD (D : List AV) (n : Nat) (rs : List DRow) : Option (AV × List (Nat × Blk)) := List.rec none (fun r _ ih => br (eqD D r.1) (some (rowQ r n)) ih) rs
theorem findD_some {D : List AV} {n : Nat} {q : AV × List (Nat × Blk)} : ∀ {rs : List DRow}, findD D n rs = some q → ∃ r ∈ rs, D = r.1.map (AV.int .i64) ∧ q = rowQ r n
  | [], h => by cases h
  | r :: rs, h => by
    have h' : br (eqD D r.1) (some (rowQ r n)) (findD D n rs) = some q := h
    cases hq : eqD D r.1 with
    | true => rw [hq] at h'; exact ⟨r, List.mem_cons_self, eqD_eq hq, (Option.some.inj h').symm⟩
    | false =>
      rw [hq] at h'
      obtain ⟨r', h1, h2⟩ := findD_some h'
      exact ⟨r', List.mem_cons_of_mem _ h1, h2⟩
noncomputable def lookD : Look := fun us bs n => match us with
  | [.sl s, .bool nr] => br nr none (match s.a with
    | some a => br (Nat.beq a.b 1) (br (Nat.beq a.g 0) (br (Nat.beq a.o 0) (match bs with
      | [D] => br (Nat.beq s.n D.length) (findD D n rowsT) none
      | _ => none) none) none) none
    | none => none)
  | _ => none
theorem lookD_ok : LookOK Hg F0 (q8_A 100000) lookD := by
  intro us bs n q h
  unfold lookD at h
  split at h
  · rename_i s nr
    obtain ⟨hnr, h⟩ := br_some' h
    split at h
    · rename_i a ha
      obtain ⟨h1, h⟩ := br_some h
      obtain ⟨h2, h⟩ := br_some h
      obtain ⟨h3, h⟩ := br_some h
      split at h
      · rename_i D
        obtain ⟨h4, h⟩ := br_some h
        obtain ⟨r, hr, hD, hq⟩ := findD_some h
        have e1 := Nat.eq_of_beq_eq_true h1
        have e2 := Nat.eq_of_beq_eq_true h2
        have e3 := Nat.eq_of_beq_eq_true h3
        have e4 := Nat.eq_of_beq_eq_true h4
        have hs : s = ⟨some ⟨1, 0, 0⟩, r.1.length, s.c⟩ := by
          obtain ⟨sa, sn, sc⟩ := s
          obtain ⟨ab, ag, ao⟩ := a
          simp only at ha e1 e2 e3 e4
          rw [ha, e1, e2, e3, e4, hD, List.length_map]
        refine ⟨?_, ?_⟩
        · rw [hs, hnr, hD, hq]
          exact rowsT_ok r hr s.c n
        · rw [hq]; rfl
      · cases h
    · cases h
  · cases h
noncomputable def isT (o : Option RV) : Bool := match o with | some p => (match p.1 with | .bool b => b | _ => false) | none => false
theorem isT_some {o : Option RV} (h : isT o = true) : ∃ H, o = some (.bool true, H) := by
  unfold isT at h
  split at h
  · rename_i p
    obtain ⟨v, H⟩ := p
    simp only at h
    split at h
    · rename_i b; subst h; exact ⟨H, rfl⟩
    · cases h
  · cases h
theorem works_ev : isT (F0 16 [] Hg) = true := by kernel_rfl
theorem works_ok : EntryOK Tryd.prog gl 16 (fun _ args H => isNil args (some (.bool true, H))) := by
  obtain ⟨H1, h⟩ := isT_some works_ev
  exact EntryOK.of_call hbase F0_sound h rfl
noncomputable def disp1 : Disp := dispOr (dispNode 16 (dispLeaf 8 (tableG Hg lookD)) (dispLeaf 16 fun _ args H => isNil args (some (.bool true, H)))) (disp 100000)
theorem disp1_ok : DispOK Tryd.prog gl disp1 := .or (.node (.leaf (.tableG hbase F0_sound (q8_ok 100000) lookD_ok)) (.leaf works_ok)) (disp_ok 100000 q18_sites)
noncomputable def F1 : FTab := ftab disp1 30
theorem F1_sound : FSound Tryd.prog gl F1 := ftab_sound disp1_ok 30
end Go.Proofs.YtjcmbghmmdakgaaDoor.Q
