/- Part of a proof of a law of this seat: see the last text. -/
import Derived.Test.YtjcmbghmmdakgaaDoorQ2
open Go Go.Ab
namespace Go.Proofs.YtjcmbghmmdakgaaDoor.Q
set_option maxRecDepth 1000000
noncomputable def q18_g (e : ME) (x : Int) : Option RV ⊕ Int :=
  match asI .i64 e.v with
  | none => .inl none
  | some n => .inr (br (ltI x n) n x)
theorem q18_comm {e1 e2 : ME} (x : Int) : bindG (q18_g e1 x) (q18_g e2) = bindG (q18_g e2 x) (q18_g e1) := by
  unfold q18_g bindG
  cases asI .i64 e1.v <;> cases asI .i64 e2.v <;> simp only
  congr 1
  simp only [ltI_eq, br_decide]
  repeat' split
  all_goals omega
theorem q18_sites : q18_Sites := by
  intro F N ke kr r b m since clock es seen last s0 hit hib him hinc hsl hsc hpre hkd hw
  have hkp : keepS (pl18.ins q18_RP0_1_0_0_1_0.r) s0 = ⟨((T.leaf.set .bad 16 (s0.t.get .bad 16)).set .bad 3 (s0.t.get .bad 3)), s0.h⟩ := by kernel_rfl
  rw [hkp] at hit hkd hw hpre ⊢
  have h8 : s0.t.get .bad 16 = .ptr (some ⟨b, 0, 0⟩) := hit
  obtain ⟨hk3, _⟩ := kdsB_cons hkd
  obtain ⟨a, h3⟩ := kdB_ptr hk3
  have h3 : s0.t.get .bad 3 = .ptr (some a) := h3
  rw [h3, h8] at hpre
  have hst : ∀ H, (⟨((T.leaf.set .bad 16 (.ptr (some ⟨b, 0, 0⟩))).set .bad 3 (.ptr (some a))), H⟩ : St) = q18_ins0_1_0_0_1_0 a ⟨b, 0, 0⟩ H := fun H => by kernel_rfl
  rw [h3, h8, hst] at hw ⊢
  have hpre' : br (Nat.beq a.o 0) (cellB (s0.h.get a.b) a.g) false = true := hpre
  obtain ⟨ho, hcell⟩ : Nat.beq a.o 0 = true ∧ cellB (s0.h.get a.b) a.g = true := by
    cases hq : Nat.beq a.o 0 with
    | true => rw [hq] at hpre'; exact ⟨rfl, hpre'⟩
    | false => rw [hq] at hpre'; cases hpre'
  have ho := Nat.eq_of_beq_eq_true ho
  obtain ⟨ea, x0, hga⟩ := cellB_some hcell
  have hbs := size_of_get hib (by intro h; cases h)
  have has := size_of_get hga (by intro h; cases h)
  have hmb : m ≠ b := fun e => by rw [e, hib] at him; cases him
  have hma : m ≠ a.b := fun e => by rw [e, hga] at him; cases him
  have hab : a.b ≠ b := fun e => by rw [e, hib] at hga; cases hga
  have hself := Heap.put_self s0.h hib (by intro h; cases h)
  have hself2 := Heap.put_self s0.h hga (by intro h; cases h)
  have hstart : s0.h = (s0.h.put a.b (.cells ea a.g [.int .i64 x0] [] false)).put b (.iter (some m) since seen last) := by rw [hself2, hself]
  have hg1 : ∀ x seen last, ((s0.h.put a.b (.cells ea a.g [.int .i64 x] [] false)).put b (.iter (some m) since seen last)).get m = .map es clock := fun x seen last => by
    rw [Heap.get_put_ne _ _ hmb, Heap.get_put_ne _ _ hma]; exact him
  have hae : a = ⟨a.b, a.g, 0⟩ := by rw [← ho]
  rw [hstart] at hw ⊢
  refine site_of_run (σ := Int) (fun x seen last => q18_ins0_1_0_0_1_0 a ⟨b, 0, 0⟩ ((s0.h.put a.b (.cells ea a.g [.int .i64 x] [] false)).put b (.iter (some m) since seen last))) q18_g (fun x => ke 0 (q18_out0_1_0_0_1_0_0 ((s0.h.put a.b (.cells ea a.g [.int .i64 x] [] false)).put b .dead))) hinc hsc (fun _ _ _ => by kernel_rfl) (fun _ _ _ => Heap.get_put_same _ _ _ hbs) (fun _ _ _ => hg1 _ _ _) ?_ ?_ ?_ seen last x0 hsl hw
  · intro e he x seen last kn
    have hf := incB_find hinc e he
    refine (show _ = q18_SegE0_1_0_0_1_0_0_1_1 F N b m since clock seen e a ⟨b, 0, 0⟩ ((s0.h.put a.b (.cells ea a.g [.int .i64 x] [] false)).put b (.iter (some m) since seen last)) kn (fun i s => ke i (forget b s)) (fun s => kr (forget b s)) from by kernel_rfl).trans ?_
    rw [q18_SegEq0_1_0_0_1_0_0_1_1]
    unfold q18_segS0_1_0_0_1_0_0_1_1
    simp only
    rw [entryS_at (by exact hbs) (hg1 _ _ _) hmb hf, Heap.put_put]
    have hat : ∀ x, Heap.at ((s0.h.put a.b (.cells ea a.g [.int .i64 x] [] false)).put b (.iter (some m) since (seen ++ [e.born]) clock)) a = some (.int .i64 x) := by
      intro x
      have h := at_own (H := (s0.h.put a.b (.cells ea a.g [.int .i64 x] [] false)).put b (.iter (some m) since (seen ++ [e.born]) clock)) (b := a.b) (e := ea) (g := a.g) (v := .int .i64 x) (by rw [Heap.get_put_ne _ _ hab, Heap.get_put_same _ _ _ has])
      rw [← hae] at h; exact h
    have hst : ∀ (v : Int), Heap.store ((s0.h.put a.b (.cells ea a.g [.int .i64 x] [] false)).put b (.iter (some m) since (seen ++ [e.born]) clock)) a [.int .i64 v] =
        some ((s0.h.put a.b (.cells ea a.g [.int .i64 v] [] false)).put b (.iter (some m) since (seen ++ [e.born]) clock)) := by
      intro v
      have h := store_own (H := (s0.h.put a.b (.cells ea a.g [.int .i64 x] [] false)).put b (.iter (some m) since (seen ++ [e.born]) clock)) (b := a.b) (e := ea) (g := a.g) (o := 0) (v := .int .i64 v) (x := [.int .i64 x]) (by rw [Heap.get_put_ne _ _ hab, Heap.get_put_same _ _ _ has])
      rw [← hae] at h
      rw [h, Heap.put_comm _ _ _ (Ne.symm hab), Heap.put_put]
      rfl
    unfold q18_g
    cases asI .i64 e.v with
    | none => rfl
    | some n =>
      simp only [Option.bind_some, hat, bindI_eq, hst, asI_some']
  · intro x seen last
    refine (show _ = ke 0 (q18_out0_1_0_0_1_0_0 (forgetH b ((s0.h.put a.b (.cells ea a.g [.int .i64 x] [] false)).put b (.iter (some m) since seen last)))) from by kernel_rfl).trans ?_
    rw [forgetH_iter (by exact hbs)]
  · intro e1 h1 e2 h2 x
    exact q18_comm x
end Go.Proofs.YtjcmbghmmdakgaaDoor.Q
