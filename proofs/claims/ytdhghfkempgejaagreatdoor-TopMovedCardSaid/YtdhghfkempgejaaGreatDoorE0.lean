/- The function 'mixed' by hand: its pack is what its numbers say. -/
import Derived.Test.YtdhghfkempgejaaGreatDoorQ3
import Derived.Test.YtdhghfkempgejaaGreatDoorAbRd
open Go Go.Ab
namespace Go.Proofs.YtdhghfkempgejaaGreatDoor.Q
set_option maxRecDepth 1000000
theorem q125_sites : q125_Sites := by
  intro F N ke kr r b m since clock es seen last s0 hit hib him hinc hsl hsc hpre hkd hw
  have hkp : keepS (pl125.ins q125_RP1_0.r) s0 = ⟨((T.leaf.set .bad 7 (s0.t.get .bad 7)).set .bad 0 (s0.t.get .bad 0)), s0.h⟩ := by kernel_rfl
  rw [hkp] at hit hkd hw hpre ⊢
  have h8 : s0.t.get .bad 7 = .ptr (some ⟨b, 0, 0⟩) := hit
  have hpre0 : preSlot 0 2 ⟨((T.leaf.set .bad 7 (s0.t.get .bad 7)).set .bad 0 (s0.t.get .bad 0)), s0.h⟩ es = true := hpre
  have hpre1 : ptrB (s0.t.get .bad 0) (fun p => Option.rec false (fun v => slB v fun q => Option.rec false (fun a => br (Nat.beq a.b p.b) false (ownG (s0.h.get a.b) a.g (br (rng0B es) (nodupB es) false))) q.a) (Heap.at s0.h ⟨p.b, p.g, Nat.add p.o 2⟩)) = true := hpre0
  have hp0 : ∃ p, s0.t.get .bad 0 = .ptr (some p) ∧ (Option.rec false (fun v => slB v fun q => Option.rec false (fun a => br (Nat.beq a.b p.b) false (ownG (s0.h.get a.b) a.g (br (rng0B es) (nodupB es) false))) q.a) (Heap.at s0.h ⟨p.b, p.g, Nat.add p.o 2⟩) : Bool) = true := by
    unfold ptrB at hpre1
    split at hpre1
    · rename_i p hp; exact ⟨p, hp, hpre1⟩
    · cases hpre1
  obtain ⟨p, h0, hpre2⟩ := hp0
  cases hat : Heap.at s0.h ⟨p.b, p.g, Nat.add p.o 2⟩ with
  | none => rw [hat] at hpre2; cases hpre2
  | some v =>
  rw [hat] at hpre2
  have hq : ∃ q, v = .sl q ∧ (Option.rec false (fun a => br (Nat.beq a.b p.b) false (ownG (s0.h.get a.b) a.g (br (rng0B es) (nodupB es) false))) q.a : Bool) = true := by
    have hp3 : slB v (fun q => Option.rec false (fun a => br (Nat.beq a.b p.b) false (ownG (s0.h.get a.b) a.g (br (rng0B es) (nodupB es) false))) q.a) = true := hpre2
    unfold slB at hp3
    split at hp3
    · rename_i q; exact ⟨q, rfl, hp3⟩
    · cases hp3
  obtain ⟨q, rfl, hpre3⟩ := hq
  cases hqa : q.a with
  | none => rw [hqa] at hpre3; cases hpre3
  | some a =>
  rw [hqa] at hpre3
  have hpre4 : br (Nat.beq a.b p.b) false (ownG (s0.h.get a.b) a.g (br (rng0B es) (nodupB es) false)) = true := hpre3
  obtain ⟨hbp, hown⟩ : a.b ≠ p.b ∧ ownG (s0.h.get a.b) a.g (br (rng0B es) (nodupB es) false) = true := by
    cases hq : Nat.beq a.b p.b with
    | true => rw [hq] at hpre4; cases hpre4
    | false => rw [hq] at hpre4; exact ⟨Nat.ne_of_beq_eq_false hq, hpre4⟩
  obtain ⟨hbr, ea, da, oa, hga⟩ := ownG_some hown
  have hnd : nodupB es = true := by
    cases hq : rng0B es with
    | false => rw [hq] at hbr; cases hbr
    | true => rw [hq] at hbr; exact hbr
  have hst : ∀ H, (⟨((T.leaf.set .bad 7 (.ptr (some ⟨b, 0, 0⟩))).set .bad 0 (.ptr (some p))), H⟩ : St) = q125_ins1_0 (some p) ⟨b, 0, 0⟩ H := fun H => by kernel_rfl
  rw [h0, h8, hst] at hw ⊢
  have hbs := size_of_get hib (by intro h; cases h)
  have has := size_of_get hga (by intro h; cases h)
  have hmb : m ≠ b := fun e => by rw [e, hib] at him; cases him
  have hma : m ≠ a.b := fun e => by rw [e, hga] at him; cases him
  have hab : a.b ≠ b := fun e => by rw [e, hib] at hga; cases hga
  have hself := Heap.put_self s0.h hib (by intro h; cases h)
  have hself2 := Heap.put_self s0.h hga (by intro h; cases h)
  have hstart : s0.h = (s0.h.put a.b (.cells ea a.g da oa false)).put b (.iter (some m) since seen last) := by rw [hself2, hself]
  have hg1 : ∀ (x : Slot) seen last, ((s0.h.put a.b (.cells ea a.g x.1 x.2 false)).put b (.iter (some m) since seen last)).get m = .map es clock := fun x seen last => by
    rw [Heap.get_put_ne _ _ hmb, Heap.get_put_ne _ _ hma]; exact him
  rw [hstart] at hw ⊢
  refine site_of_run (σ := Slot) (fun x seen last => q125_ins1_0 (some p) ⟨b, 0, 0⟩ ((s0.h.put a.b (.cells ea a.g x.1 x.2 false)).put b (.iter (some m) since seen last))) (cntG a.o q.n) (fun x => ke 0 (q125_out1_0_0 ((s0.h.put a.b (.cells ea a.g x.1 x.2 false)).put b .dead))) hinc hsc (fun _ _ _ => by kernel_rfl) (fun _ _ _ => Heap.get_put_same _ _ _ hbs) (fun _ _ _ => hg1 _ _ _) ?_ ?_ ?_ seen last (da, oa) hsl hw
  · intro e he x seen last kn
    have hf := incB_find hinc e he
    refine (show _ = q125_SegE1_0_0_1_1 F N b m since clock seen e (some p) ⟨b, 0, 0⟩ ((s0.h.put a.b (.cells ea a.g x.1 x.2 false)).put b (.iter (some m) since seen last)) kn (fun i s => ke i (forget b s)) (fun s => kr (forget b s)) from by kernel_rfl).trans ?_
    rw [q125_SegEq1_0_0_1_1]
    unfold q125_segS1_0_0_1_1
    simp only
    rw [entryS_at (by exact hbs) (hg1 _ _ _) hmb hf, Heap.put_put]
    have hpa : Heap.at ((s0.h.put a.b (.cells ea a.g x.1 x.2 false)).put b (.iter (some m) since (seen ++ [e.born]) clock)) ⟨p.b, p.g, Nat.add p.o 2⟩ = some (.sl q) := by
      have h1 : Heap.at ((s0.h.put a.b (.cells ea a.g x.1 x.2 false)).put b (.iter (some m) since (seen ++ [e.born]) clock)) ⟨p.b, p.g, Nat.add p.o 2⟩ = Heap.at (s0.h.put a.b (.cells ea a.g x.1 x.2 false)) ⟨p.b, p.g, Nat.add p.o 2⟩ := at_iter (by rw [Heap.get_put_ne _ _ (Ne.symm hab)]; exact hib) _
      rw [h1, ← hat]
      unfold Heap.at
      rw [Heap.get_put_ne _ _ (Ne.symm hbp)]
    have hget : ((s0.h.put a.b (.cells ea a.g x.1 x.2 false)).put b (.iter (some m) since (seen ++ [e.born]) clock)).get a.b = .cells ea a.g x.1 x.2 false := by rw [Heap.get_put_ne _ _ hab, Heap.get_put_same _ _ _ has]
    have hrd : ∀ k, Heap.at ((s0.h.put a.b (.cells ea a.g x.1 x.2 false)).put b (.iter (some m) since (seen ++ [e.born]) clock)) ⟨a.b, a.g, k⟩ = x.1[k]? := fun k => at_gen hget
    have hst : ∀ (k : Nat) (v : AV), Heap.store ((s0.h.put a.b (.cells ea a.g x.1 x.2 false)).put b (.iter (some m) since (seen ++ [e.born]) clock)) ⟨a.b, a.g, k⟩ [v] =
        br (Nat.ble (Nat.add k 1) x.1.length) (br (allOne [v]) (some ((s0.h.put a.b (.cells ea a.g (putAt x.1 k [v]) (cutOld x.2 k) false)).put b (.iter (some m) since (seen ++ [e.born]) clock))) none) none := by
      intro k v
      rw [store_gen hget, Heap.put_comm _ _ _ (Ne.symm hab), Heap.put_put]
    unfold cntG cntO
    simp only [Option.bind_some, hpa, asSl, hqa, hrd, hst, bindI_eq]
    cases asI .i64 e.k with
    | none => rfl
    | some d =>
      cases asB e.v with
      | none => rfl
      | some bb =>
        simp only [Option.bind_some]
        cases hi : idxN d q.n with
        | none => cases bb <;> rfl
        | some i =>
          simp only [Option.bind_some]
          cases x.1[Nat.add a.o (Nat.mul i 1)]? with
          | none => cases bb <;> rfl
          | some c =>
            simp only [Option.bind_some]
            cases asI .i64 c with
            | none => cases bb <;> rfl
            | some z =>
              simp only [Option.bind_some]
              cases Nat.ble (Nat.add (Nat.add a.o (Nat.mul i 1)) 1) x.1.length <;> cases bb <;> rfl
  · intro x seen last
    refine (show _ = ke 0 (q125_out1_0_0 (forgetH b ((s0.h.put a.b (.cells ea a.g x.1 x.2 false)).put b (.iter (some m) since seen last)))) from by kernel_rfl).trans ?_
    rw [forgetH_iter (by exact hbs)]
  · intro e1 h1 e2 h2 x
    exact cnt_comm (nodupB_all hnd e1 h1 e2 h2) x
end Go.Proofs.YtdhghfkempgejaaGreatDoor.Q

open Go Go.Ab
namespace Go.Proofs.YtdhghfkempgejaaGreatDoor.Q
set_option maxRecDepth 1000000
set_option linter.unusedVariables false
abbrev ints (l : List Int) : List AV := l.map (AV.int .i64)
theorem allOne_ints : ∀ l : List Int, allOne (ints l) = true
  | [] => rfl
  | _ :: l => allOne_ints l
/-- A slice that only grows. -/
structure OutS (H : Heap) (s : Sl) (l : List Int) : Prop where
  or : (l = [] ∧ s = ⟨none, 0, .known 0⟩) ∨ ∃ b g old, s = ⟨some ⟨b, g, 0⟩, l.length, .unk 1⟩ ∧ H.get b = .cells 3 g (ints l) old false
theorem OutS.rd {H : Heap} {s : Sl} {l : List Int} (h : OutS H s l) : Rd H s (ints l) := by
  rcases h.or with ⟨rfl, rfl⟩ | ⟨b, g, old, rfl, hb⟩
  · exact Rd.nil
  · refine ⟨by simp [ints], ?_⟩
    show H.row ⟨b, g, 0⟩ (Nat.mul l.length 1) = some (ints l)
    unfold Heap.row
    simp only [hb]
    rw [Blk.len_cells, if_pos rfl, Option.bind_some, show Nat.ble (Nat.add 0 (Nat.mul l.length 1)) (ints l).length = true from by rw [Nat.ble_eq]; simp [ints], br_true]
    simp [Blk.data]
    exact List.take_of_length_le (by simp)
theorem OutS.ok {H : Heap} {s : Sl} {l : List Int} (h : OutS H s l) : s.ok := by
  rcases h.or with ⟨rfl, rfl⟩ | ⟨b, g, old, rfl, hb⟩
  · exact Nat.le_refl _
  · rfl
/-- What stays: all blocks but one. -/
def Keeps (H H' : Heap) (s : Sl) : Prop := H.size ≤ H'.size ∧ ∀ c, c < H.size → (∀ a, s.a = some a → c ≠ a.b) → H'.get c = H.get c
theorem OutS.append {H : Heap} {s x : Sl} {l m : List Int} (h : OutS H s l) (hx : Rd H x (ints m)) (hm : m ≠ []) (hb : l.length + m.length ≤ 1000000) :
    ∃ s' H', appendS 3 1 8 H s x = some (s', H') ∧ OutS H' s' (l ++ m) ∧ Keeps H H' s ∧ (∀ a', s'.a = some a' → (∃ a, s.a = some a ∧ a'.b = a.b) ∨ H.size ≤ a'.b) := by
  have hm' : ints m ≠ [] := by intro e; exact hm (List.map_eq_nil_iff.1 e)
  rcases h.or with ⟨rfl, rfl⟩ | ⟨b, g, old, rfl, hbk⟩
  · obtain ⟨s', H', h1, h2, h3, h4, h5⟩ := append_fresh (e := 3) (s := ⟨none, 0, .known 0⟩) Rd.nil rfl hx (allOne_ints m) (by simp [ints]; omega)
    rcases h5 with ⟨q, _, _⟩ | ⟨_, rfl, rfl⟩
    · exact absurd q hm'
    · refine ⟨_, _, h1, ⟨.inr ⟨H.size, 0, [], by simp [ints], by rw [Heap.get_push_new]; rfl⟩⟩, ⟨by simp, fun c hc _ => Heap.get_push_old H _ hc⟩, fun a' ha => .inr (by cases ha; exact Nat.le_refl _)⟩
  · obtain ⟨s', H', h1, h2, h3, h4, h5⟩ := append_grow (l := ints l) (m := ints m) h.rd hbk (by simp [ints]) hx (allOne_ints m) (by simp [ints]; omega)
    rcases h5 with ⟨q, _, _⟩ | ⟨_, old', rfl, rfl⟩
    · exact absurd q hm'
    · have hbs := size_of_get hbk (by intro h; cases h)
      refine ⟨_, _, h1, ⟨.inr ⟨b, g + 1, old', by simp [ints], ?_⟩⟩, ⟨by simp, fun c hc hne => Heap.get_put_ne H _ (hne _ rfl)⟩, fun a' ha => .inl ⟨⟨b, g, 0⟩, rfl, by cases ha; rfl⟩⟩
      rw [Heap.get_put_same H b _ hbs]
      have : (ints l).take (0 + l.length) = ints l := List.take_of_length_le (by simp [ints])
      rw [this]; simp [ints]
theorem OutS.keep {H H' : Heap} {s : Sl} {l : List Int} (h : OutS H s l) (hg : ∀ a, s.a = some a → H'.get a.b = H.get a.b) : OutS H' s l := by
  rcases h.or with ⟨rfl, rfl⟩ | ⟨b, g, old, rfl, hb⟩
  · exact ⟨.inl ⟨rfl, rfl⟩⟩
  · exact ⟨.inr ⟨b, g, old, rfl, by rw [hg _ rfl]; exact hb⟩⟩
theorem OutS.lt {H : Heap} {s : Sl} {l : List Int} (h : OutS H s l) {a : AA} (ha : s.a = some a) : a.b < H.size := h.rd.lt ha

theorem wr_small {n : Int} (h0 : 0 ≤ n) (h1 : n < 1000000000) : wr .i64 n = n := by rw [wr_eq, wrap_in .i64 n (by simp only [lo]; omega) (by simp only [hi]; omega)]
theorem idxN_nat {i n : Nat} (h : i < n) : idxN (i : Int) n = some i := by
  show br (Nat.blt i n) (some i) none = _
  rw [show Nat.blt i n = true from by rw [Nat.blt_eq]; exact h, br_true]
theorem ltI_nat (a b : Nat) : ltI (a : Int) (b : Int) = decide (a < b) := by rw [ltI_eq]; congr 1; simp

/-- One card is taken out. -/
theorem q5_take (F : FTab) (N : Nat) {v1 v5 v6 : Sl} {i k : Nat} {H : Heap} {L O : List Int} (hL : Rd H v5 (ints L)) (hok : v5.ok) (hO : OutS H v6 O) (hk : k < L.length) (hi : i < 100000) (hsz : L.length + O.length ≤ 100000)
    (hne : ∀ a a', v5.a = some a → v6.a = some a' → a.b ≠ a'.b) :
    ∃ v5' v6' H', Rd H' v5' (ints (L.take k ++ L.drop (k + 1))) ∧ v5'.ok ∧ OutS H' v6' (O ++ [L[k]]) ∧ (∀ a a', v5'.a = some a → v6'.a = some a' → a.b ≠ a'.b) ∧ Keeps H H' v6 ∧
      (∀ a', v6'.a = some a' → (∃ a, v6.a = some a ∧ a'.b = a.b) ∨ H.size ≤ a'.b) ∧
      ∀ (kn : Sl → Sl → Sl → Int → Heap → Option RV) (ke2 : Sl → Heap → Option RV), q5_segS1_1_1_0_1_0_0_1_0_0_1_1 F N v1 v5 v6 (i : Int) (k : Int) H kn ke2 = kn v1 v5' v6' ((i + 1 : Nat) : Int) H' := by
  have hn5 : v5.n = L.length := by rw [hL.n]; simp [ints]
  obtain ⟨a5, ha5, hat⟩ := hL.at (i := k) (by simp [ints]; exact hk)
  have hLk : (ints L)[k]'(by simp [ints]; exact hk) = .int .i64 L[k] := by simp [ints]
  -- the card
  have hpush := Rd.new (H := H) (e := 3) (l := [.int .i64 L[k]]) (ro := false) (.known 1)
  have hO7 : OutS (H.push (.cells 3 0 [.int .i64 L[k]] [] false)) v6 O := hO.keep fun a ha => Heap.get_push_old H _ (hO.lt ha)
  have hL7 : Rd (H.push (.cells 3 0 [.int .i64 L[k]] [] false)) v5 (ints L) := hL.push _
  obtain ⟨v6', H8, e8, hO8, hk8, hb8⟩ := hO7.append (x := ⟨some ⟨H.size, 0, 0⟩, 1, .known 1⟩) (m := [L[k]]) hpush (by simp) (by simp; omega)
  have hL8 : Rd H8 v5 (ints L) := hL7.keep fun a ha => hk8.2 a.b (hL7.lt ha) fun a' ha' => hne a a' ha ha'
  have hs8 : H.size < H8.size := by have := hk8.1; simp at this; omega
  -- the rest
  have hL11 : Rd (H8.push (.cells 3 0 [] [] false)) v5 (ints L) := hL8.push _
  have hllen : (ints L).length = L.length := by simp [ints]
  obtain ⟨s12, c12, r12, ok12, n12, b12⟩ := hL11.cut hok (lo := 0) (hi := k) (Nat.zero_le _) (by rw [hllen]; omega)
  obtain ⟨s14, c14, r14, ok14, n14, b14⟩ := hL11.cut hok (lo := k + 1) (hi := L.length) (by omega) (by rw [hllen]; exact Nat.le_refl _)
  have t12 : ((ints L).drop 0).take (k - 0) = ints (L.take k) := by simp [ints]
  have t14 : ((ints L).drop (k + 1)).take (L.length - (k + 1)) = ints (L.drop (k + 1)) := by
    rw [List.take_of_length_le (by simp [ints])]; simp [ints]
  rw [t12] at r12
  rw [t14] at r14
  have hfr := Rd.new (H := H8) (e := 3) (l := []) (ro := false) (.known 0)
  obtain ⟨s15, H15, e15, r15, ok15, n15, q15⟩ := append_fresh (e := 3) (s := ⟨some ⟨H8.size, 0, 0⟩, 0, .known 0⟩) (m := ints (L.take k)) hfr rfl r12 (allOne_ints _) (by simp [ints]; omega)
  have hO11 : OutS (H8.push (.cells 3 0 [] [] false)) v6' (O ++ [L[k]]) := hO8.keep fun a ha => Heap.get_push_old H8 _ (hO8.lt ha)
  have fin : ∀ (s16 : Sl) (H16 : Heap), appendS 3 1 8 H15 s15 s14 = some (s16, H16) → Rd H16 s16 (ints (L.take k ++ L.drop (k + 1))) → s16.ok → (∀ c, c ≤ H8.size → c ≠ H8.size → H16.get c = H8.get c) → H8.size ≤ H16.size → (∀ a, s16.a = some a → H8.size ≤ a.b) →
      ∃ v5' v6' H', Rd H' v5' (ints (L.take k ++ L.drop (k + 1))) ∧ v5'.ok ∧ OutS H' v6' (O ++ [L[k]]) ∧ (∀ a a', v5'.a = some a → v6'.a = some a' → a.b ≠ a'.b) ∧ Keeps H H' v6 ∧
      (∀ a', v6'.a = some a' → (∃ a, v6.a = some a ∧ a'.b = a.b) ∨ H.size ≤ a'.b) ∧
      ∀ (kn : Sl → Sl → Sl → Int → Heap → Option RV) (ke2 : Sl → Heap → Option RV), q5_segS1_1_1_0_1_0_0_1_0_0_1_1 F N v1 v5 v6 (i : Int) (k : Int) H kn ke2 = kn v1 v5' v6' ((i + 1 : Nat) : Int) H' := by
    intro s16 H16 e16 r16 ok16 k16 z16 b16
    refine ⟨s16, v6', H16, r16, ok16, hO8.keep fun a ha => k16 _ (Nat.le_of_lt (hO8.lt ha)) (Nat.ne_of_lt (hO8.lt ha)), fun a a' h1 h2 => ?_, ⟨by omega, fun c hc hne' => ?_⟩, fun a' ha' => ?_, fun kn ke2 => ?_⟩
    · have := b16 a h1; have := hO8.lt h2; omega
    · rw [k16 c (by omega) (by omega), hk8.2 c (by simp; omega) hne', Heap.get_push_old H _ hc]
    · rcases hb8 a' ha' with q | q
      · exact .inl q
      · right; simp at q; omega
    · unfold q5_segS1_1_1_0_1_0_0_1_0_0_1_1
      rw [idxN_nat (show k < v5.n by omega), Option.bind_some, ha5, Option.bind_some, hat, Option.bind_some, hLk, asI_some', Option.bind_some]
      simp only
      rw [e8, Option.bind_some]
      have hc12 : sliceSl v5 1 none (some (k : Int)) none = some s12 := by
        unfold sliceSl
        show (bound none 0).bind _ = _
        simp only [bound, Option.bind_some, natI_nat]
        exact c12
      have hc14 : sliceSl v5 1 (some ((k + 1 : Nat) : Int)) none none = some s14 := by
        unfold sliceSl
        simp only [bound, Option.bind_some, natI_nat, hn5]
        exact c14
      have hw : wr .i64 ((k : Int) + 1) = ((k + 1 : Nat) : Int) := by rw [wr_small (by omega) (by omega)]; simp
      have hw2 : wr .i64 ((i : Int) + 1) = ((i + 1 : Nat) : Int) := by rw [wr_small (by omega) (by omega)]; simp
      rw [hc12, Option.bind_some, bindI_eq, hw, hc14, Option.bind_some, e15, Option.bind_some, e16, Option.bind_some, bindI_eq, hw2]
  rcases q15 with ⟨qe, rfl, rfl⟩ | ⟨qe, rfl, rfl⟩
  · -- nothing ahead of it
    have hk0 : L.take k = [] := List.map_eq_nil_iff.1 qe
    rw [qe] at r15
    obtain ⟨s16, H16, e16, r16, ok16, n16, q16⟩ := append_fresh (e := 3) (s := ⟨some ⟨H8.size, 0, 0⟩, 0, .known 0⟩) (m := ints (L.drop (k + 1))) r15 rfl r14 (allOne_ints _) (by simp [ints]; omega)
    refine fin s16 H16 e16 (by rw [hk0]; exact r16) ok16 ?_ ?_ ?_
    · intro c h1 h2
      rcases q16 with ⟨_, _, rfl⟩ | ⟨_, _, rfl⟩
      · exact Heap.get_push_old H8 _ (by omega)
      · rw [Heap.get_push_old _ _ (by simp; omega), Heap.get_push_old H8 _ (by omega)]
    · rcases q16 with ⟨_, _, rfl⟩ | ⟨_, _, rfl⟩ <;> simp <;> omega
    · intro a ha
      rcases q16 with ⟨_, rfl, _⟩ | ⟨_, rfl, _⟩
      · cases ha; exact Nat.le_refl _
      · cases ha; simp
  · obtain ⟨s16, H16, e16, r16, ok16, n16, q16⟩ := append_grow (e := 3) (a := ⟨(H8.push (.cells 3 0 [] [] false)).size, 0, 0⟩) (k := (ints (L.take k)).length) (g := 0) (data := ints (L.take k)) (old := []) (x := s14) (l := ints (L.take k)) (m := ints (L.drop (k + 1))) r15 (by rw [Heap.get_push_new]) (by simp) (r14.push _) (allOne_ints _) (by simp [ints]; omega)
    refine fin s16 H16 e16 (by rw [show ints (L.take k ++ L.drop (k + 1)) = ints (L.take k) ++ ints (L.drop (k + 1)) by simp [ints]]; exact r16) (by unfold Sl.ok; rw [ok16]) ?_ ?_ ?_
    · intro c h1 h2
      rcases q16 with ⟨_, rfl, _⟩ | ⟨_, old', _, rfl⟩
      · rw [Heap.get_push_old _ _ (by simp; omega), Heap.get_push_old H8 _ (by omega)]
      · rw [Heap.get_put_ne _ _ (by simp; omega), Heap.get_push_old _ _ (by simp; omega), Heap.get_push_old H8 _ (by omega)]
    · rcases q16 with ⟨_, rfl, _⟩ | ⟨_, old', _, rfl⟩ <;> simp <;> omega
    · intro a ha
      rcases q16 with ⟨_, _, rfl⟩ | ⟨_, old', rfl, _⟩
      · cases ha; simp
      · cases ha; simp

abbrev bytes (l : List Int) : List AV := l.map (AV.int .u8)
def kOf (xs : List Int) (i m : Nat) : Nat := if i < xs.length then (xs.getD i 0).toNat % m else 0
theorem kOf_lt (xs : List Int) (i : Nat) {m : Nat} (h : 0 < m) : kOf xs i m < m := by
  unfold kOf
  split
  · exact Nat.mod_lt _ h
  · exact h
def mixP (xs : List Int) : Nat → Nat → List Int → List Int
  | 0, _, _ => []
  | f + 1, i, L => if L = [] then [] else L.getD (kOf xs i L.length) 0 :: mixP xs f (i + 1) (L.take (kOf xs i L.length) ++ L.drop (kOf xs i L.length + 1))
theorem q5_pick (F : FTab) (N : Nat) {v1 v5 v6 : Sl} {i : Nat} {H : Heap} {xs L : List Int} (hx : Rd H v1 (bytes xs)) (hxs : ∀ x ∈ xs, 0 ≤ x ∧ x < 256) (hn : v5.n = L.length) (hL : 0 < L.length) (kn : Sl → Sl → Sl → Int → Heap → Option RV) (ke2 : Sl → Heap → Option RV) :
    q5_segS1_1_1_0_1_0_0 F N v1 v5 v6 (i : Int) H kn ke2 = q5_segS1_1_1_0_1_0_0_1_0_0_1_1 F N v1 v5 v6 (i : Int) (kOf xs i L.length : Nat) H kn ke2 := by
  have hn1 : v1.n = xs.length := by rw [hx.n]; simp [bytes]
  unfold q5_segS1_1_1_0_1_0_0
  rw [show ltI (0 : Int) (Int.ofNat v5.n) = true from by rw [ltI_eq, hn]; exact decide_eq_true (by show (0 : Int) < (L.length : Int); omega), br_true]
  rw [show ltI (i : Int) (Int.ofNat v1.n) = decide (i < xs.length) from by rw [hn1]; exact ltI_nat _ _, br_decide]
  unfold kOf
  by_cases hi : i < xs.length
  · rw [if_pos hi, if_pos hi, idxN_nat (show i < v1.n by omega), Option.bind_some]
    obtain ⟨a, ha, hat⟩ := hx.at (i := i) (by simp [bytes]; exact hi)
    have hxi : (bytes xs)[i]'(by simp [bytes]; exact hi) = .int .u8 xs[i] := by simp [bytes]
    obtain ⟨b0, b1⟩ := hxs xs[i] (List.getElem_mem hi)
    have hgd : xs.getD i 0 = xs[i] := by simp [List.getD, hi]
    rw [ha, Option.bind_some, hat, Option.bind_some, hxi, asI_some', Option.bind_some, bindI_eq, wr_small b0 (by omega), hn, hgd]
    rw [show eqI (Int.ofNat L.length) 0 = false from by rw [eqI_dec]; exact decide_eq_false (fun h => by have : (L.length : Int) = 0 := h; omega), br_false, bindI_eq]
    have : Int.tmod xs[i] (Int.ofNat L.length) = ((xs[i].toNat % L.length : Nat) : Int) := by
      rw [Int.tmod_eq_emod_of_nonneg b0]
      conv => lhs; rw [← Int.toNat_of_nonneg b0]
      rfl
    rw [this]
  · rw [if_neg hi, if_neg hi]; rfl
theorem q5_loop2_succ (F : FTab) (N M : Nat) (v1 v5 v6 : Sl) (i : Int) (H : Heap) (fin : AV → Heap → Option RV) : q5_loopS1_1_1_0_1_0 F N (M + 1) v1 v5 v6 i H fin = q5_segS1_1_1_0_1_0_0 F N v1 v5 v6 i H (fun v1 v5 v6 i H => q5_loopS1_1_1_0_1_0 F N M v1 v5 v6 i H fin) (fun u6 H => q5_segS1_1_1_1 F N u6 H fin) := by kernel_rfl
theorem q5_loop1_succ (F : FTab) (N M : Nat) (v1 v5 v6 : Sl) (n i : Int) (H : Heap) (fin : AV → Heap → Option RV) : q5_loopS1_1_0_1_0 F N (M + 1) v1 v5 v6 n i H fin = q5_segS1_1_0_1_0_0 F N v1 v5 v6 n i H (fun v1 v5 v6 n i H => q5_loopS1_1_0_1_0 F N M v1 v5 v6 n i H fin) (fun u1 u5 u6 H => q5_segS1_1_1 F N u1 u5 u6 H fin) := by kernel_rfl
theorem q5_loop2 (F : FTab) (N : Nat) {xs : List Int} (hxs : ∀ x ∈ xs, 0 ≤ x ∧ x < 256) (fin : AV → Heap → Option RV) : ∀ (f M : Nat) {v1 v5 v6 : Sl} {i : Nat} {H : Heap} {L O : List Int}, L.length ≤ f → L.length < M → Rd H v1 (bytes xs) → Rd H v5 (ints L) → v5.ok → OutS H v6 O → i + L.length < 100000 → L.length + O.length ≤ 100000 →
    (∀ a a', v5.a = some a → v6.a = some a' → a.b ≠ a'.b) → (∀ a a', v1.a = some a → v6.a = some a' → a.b ≠ a'.b) →
    ∃ v6' H', OutS H' v6' (O ++ mixP xs f i L) ∧ q5_loopS1_1_1_0_1_0 F N M v1 v5 v6 (i : Int) H fin = fin (.sl v6') H'
  | f, 0, _, _, _, _, _, _, _, _, h, _, _, _, _, _, _, _, _ => by omega
  | 0, M + 1, v1, v5, v6, i, H, L, O, hf, hM, hx, h5, hok, hO, hi, hsz, hne, hne1 => by
    have hL : L = [] := List.length_eq_zero_iff.1 (by omega)
    subst hL
    have hn : v5.n = 0 := by rw [h5.n]; rfl
    refine ⟨v6, H, by simpa [mixP] using hO, ?_⟩
    rw [q5_loop2_succ]
    unfold q5_segS1_1_1_0_1_0_0
    rw [hn]; rfl
  | f + 1, M + 1, v1, v5, v6, i, H, L, O, hf, hM, hx, h5, hok, hO, hi, hsz, hne, hne1 => by
    by_cases hL : L = []
    · subst hL
      have hn : v5.n = 0 := by rw [h5.n]; rfl
      refine ⟨v6, H, by simpa [mixP] using hO, ?_⟩
      rw [q5_loop2_succ]
      unfold q5_segS1_1_1_0_1_0_0
      rw [hn]; rfl
    · have hpos : 0 < L.length := List.length_pos_iff.2 hL
      have hk := kOf_lt xs i hpos
      obtain ⟨v5', v6', H', r5, ok5, hO', hne', hkeep, hb6, hrun⟩ := q5_take F N (v1 := v1) (i := i) h5 hok hO hk (by omega) hsz hne
      have hx' : Rd H' v1 (bytes xs) := hx.keep fun a ha => hkeep.2 a.b (hx.lt ha) fun a' ha' => hne1 a a' ha ha'
      have hlen : (L.take (kOf xs i L.length) ++ L.drop (kOf xs i L.length + 1)).length = L.length - 1 := by simp; omega
      obtain ⟨v6'', H'', hO'', hr''⟩ := q5_loop2 F N hxs fin f M (i := i + 1) (O := O ++ [L[kOf xs i L.length]]) (by omega) (by omega) hx' r5 ok5 hO' (by omega) (by rw [hlen, List.length_append]; simp; omega) hne' (fun a a' h1 h2 => by
        rcases hb6 a' h2 with ⟨a2, q1, q2⟩ | q
        · rw [q2]; exact hne1 a a2 h1 q1
        · have := hx.lt h1; omega)
      refine ⟨v6'', H'', ?_, ?_⟩
      · have e : O ++ mixP xs (f + 1) i L = O ++ [L[kOf xs i L.length]] ++ mixP xs f (i + 1) (L.take (kOf xs i L.length) ++ L.drop (kOf xs i L.length + 1)) := by
          conv => lhs; rw [mixP, if_neg hL]
          simp [List.getD, hk]
        rw [e]; exact hO''
      · rw [q5_loop2_succ]
        rw [q5_pick F N hx hxs (by rw [h5.n]; simp [ints]) hpos, hrun]
        exact hr''
def upto (n : Nat) : List Int := (List.range n).map fun i : Nat => (i : Int)
theorem q5_loop1 (F : FTab) (N : Nat) {v1 v6 : Sl} {n : Nat} (hn : n < 100000) (fin : AV → Heap → Option RV) : ∀ (M : Nat) {v5 : Sl} {i : Nat} {H : Heap}, i ≤ n → n - i < M → OutS H v5 (upto i) →
    ∃ v5' H', OutS H' v5' (upto n) ∧ H.size ≤ H'.size ∧ (∀ c, c < H.size → (∀ a, v5.a = some a → c ≠ a.b) → H'.get c = H.get c) ∧ (∀ a', v5'.a = some a' → (∃ a, v5.a = some a ∧ a'.b = a.b) ∨ H.size ≤ a'.b) ∧
      q5_loopS1_1_0_1_0 F N M v1 v5 v6 (n : Int) (i : Int) H fin = q5_segS1_1_1 F N v1 v5' v6 H' fin
  | 0, _, _, _, _, h, _ => by omega
  | M + 1, v5, i, H, hi, hM, hO => by
    by_cases h : i < n
    · have hpush := Rd.new (H := H) (e := 3) (l := [.int .i64 (i : Int)]) (ro := false) (.known 1)
      have hO7 : OutS (H.push (.cells 3 0 [.int .i64 (i : Int)] [] false)) v5 (upto i) := hO.keep fun a ha => Heap.get_push_old H _ (hO.lt ha)
      obtain ⟨s', H8, e8, hO8, hk8, hb8⟩ := hO7.append (x := ⟨some ⟨H.size, 0, 0⟩, 1, .known 1⟩) (m := [(i : Int)]) hpush (by simp) (by simp [upto]; omega)
      have hup : upto i ++ [(i : Int)] = upto (i + 1) := by simp [upto, List.range_succ]
      rw [hup] at hO8
      obtain ⟨v5', H', r1, r2, r3, r4, r5⟩ := q5_loop1 F N hn fin M (i := i + 1) (by omega) (by omega) hO8
      have hs8 : H.size < H8.size := by have := hk8.1; simp at this; omega
      have hfar : ∀ c, c < H.size → (∀ a, v5.a = some a → c ≠ a.b) → ∀ a, s'.a = some a → c ≠ a.b := fun c hc hne a ha => by
        rcases hb8 a ha with ⟨a2, q1, q2⟩ | q
        · rw [q2]; exact hne a2 q1
        · simp at q; omega
      refine ⟨v5', H', r1, by omega, fun c hc hne => ?_, fun a' ha' => ?_, ?_⟩
      · rw [r3 c (by omega) (hfar c hc hne), hk8.2 c (by simp; omega) hne, Heap.get_push_old H _ hc]
      · rcases r4 a' ha' with ⟨a, q1, q2⟩ | q
        · rcases hb8 a q1 with ⟨a2, p1, p2⟩ | p
          · exact .inl ⟨a2, p1, q2.trans p2⟩
          · right; rw [q2]; simp at p; omega
        · right; omega
      · rw [q5_loop1_succ]
        unfold q5_segS1_1_0_1_0_0
        rw [show ltI (i : Int) (n : Int) = true from by rw [ltI_nat]; simp [h], br_true]
        simp only
        rw [e8, Option.bind_some, bindI_eq, show wr .i64 ((i : Int) + 1) = ((i + 1 : Nat) : Int) from by rw [wr_small (by omega) (by omega)]; simp]
        exact r5
    · have : i = n := by omega
      subst this
      refine ⟨v5, H, hO, Nat.le_refl _, fun _ _ _ => rfl, fun a' ha' => .inl ⟨a', ha', rfl⟩, ?_⟩
      rw [q5_loop1_succ]
      unfold q5_segS1_1_0_1_0_0
      rw [show ltI (i : Int) (i : Int) = false from by rw [ltI_nat]; simp, br_false]
theorem q5_run (F : FTab) {v1 : Sl} {n : Nat} {H : Heap} {xs : List Int} (hn : n < 10000) (hxs : ∀ x ∈ xs, 0 ≤ x ∧ x < 256) (hx : Rd H v1 (bytes xs)) (fin : AV → Heap → Option RV) :
    ∃ v6 H', OutS H' v6 (mixP xs n 0 (upto n)) ∧ q5_S F 100000 (n : Int) v1 H fin = fin (.sl v6) H' := by
  obtain ⟨v5, H1, r1, r2, r3, r4, r5⟩ := q5_loop1 F 100000 (v1 := v1) (v6 := ⟨none, 0, .known 0⟩) (n := n) (by omega) fin 100000 (v5 := ⟨none, 0, .known 0⟩) (i := 0) (H := H) (Nat.zero_le _) (by omega) ⟨.inl ⟨rfl, rfl⟩⟩
  have hx1 : Rd H1 v1 (bytes xs) := hx.keep fun a ha => r3 a.b (hx.lt ha) fun a' h => by cases h
  have hl : (upto n).length = n := by simp [upto]
  obtain ⟨v6, H', s1, s2⟩ := q5_loop2 F 100000 hxs fin n 100000 (i := 0) (O := []) (by omega) (by omega) hx1 r1.rd r1.ok ⟨.inl ⟨rfl, rfl⟩⟩ (by omega) (by simp; omega) (fun a a' _ h => by cases h) (fun a a' _ h => by cases h)
  exact ⟨v6, H', by simpa using s1, r5.trans s2⟩
end Go.Proofs.YtdhghfkempgejaaGreatDoor.Q

open Go Go.Ab
namespace Go.Proofs.YtdhghfkempgejaaGreatDoor.Q
set_option maxRecDepth 1000000
set_option linter.unusedVariables false
noncomputable def isT (o : Option RV) : Bool := match o with | some p => (match p.1 with | .bool b => b | _ => false) | none => false
theorem isT_some {o : Option RV} (h : isT o = true) : ∃ H, o = some (.bool true, H) := by
  unfold isT at h
  split at h
  · rename_i p
    obtain ⟨v, H⟩ := p
    simp only at h
    split at h
    · rename_i b; subst h; exact ⟨H, rfl⟩
    · cases h
  · cases h
noncomputable def F0 : FTab := ftab (disp 100000) 40
theorem F0_sound : FSound Tryz.prog gl F0 := ftab_sound (disp_ok 100000 q125_sites) 40
theorem works_ev : isT (F0 9 [] Hg) = true := by kernel_rfl
theorem works_ok : EntryOK Tryz.prog gl 9 (fun _ args H => isNil args (some (.bool true, H))) := by
  obtain ⟨H1, h⟩ := isT_some works_ev
  exact EntryOK.of_call hbase F0_sound h rfl
noncomputable def disp1 : Disp := dispOr (dispLeaf 9 fun _ args H => isNil args (some (.bool true, H))) (dispOr (dispLeaf 5 (frameG Hg (q5_A 100000))) (disp 100000))
theorem disp1_ok : DispOK Tryz.prog gl disp1 := .or (.leaf works_ok) (.or (.leaf (.frameG hbase (q5_ok 100000))) (disp_ok 100000 q125_sites))
noncomputable def F1 : FTab := ftab disp1 40
theorem F1_sound : FSound Tryz.prog gl F1 := ftab_sound disp1_ok 40
noncomputable def F2 : FTab := ftab disp1 39
/-- What the law goes on with, behind 'mixed'. -/
noncomputable def restM (H : Heap) (l : List Int) : Option RV := q3_loopS1_1_1_0_1_0 F2 100000 100000 ⟨some ⟨H.size, 0, 0⟩, l.length, .unk 1⟩ ⟨none, 0, .known 0⟩ (Int.ofNat l.length) 0 (H.push (.cells 3 0 (ints l) [] false)) pairK
end Go.Proofs.YtdhghfkempgejaaGreatDoor.Q
