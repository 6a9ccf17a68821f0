/- The abstract machine, 31: loops over maps whose rounds go past one another. -/
import Derived.Test.YtdhghfkempgejaaGreatDoorAbRange
namespace Go.Ab
open Go.RowKit

namespace T
variable {α : Type}
@[simp] theorem val_node (d v : α) (l r : T α) : (node v l r).val d = v := rfl
@[simp] theorem left_node (v : α) (l r : T α) : (node v l r).left = l := rfl
@[simp] theorem right_node (v : α) (l r : T α) : (node v l r).right = r := rfl
theorem setF_setF (d x y : α) : ∀ (f : Nat) (t : T α) (k : Nat), setF d y f (setF d x f t k) k = setF d y f t k
  | 0, _, _ => rfl
  | f + 1, t, k => by
    rcases cases3 k with rfl | ⟨m, rfl⟩ | ⟨m, rfl⟩
    · simp only [setF_zero, left_node, right_node]
    · simp only [setF_odd, left_node, right_node, val_node, setF_setF d x y f]
    · simp only [setF_even, left_node, right_node, val_node, setF_setF d x y f]
theorem set_set (d x y : α) (t : T α) (k : Nat) : (t.set d k x).set d k y = t.set d k y := setF_setF d x y _ t k
theorem setF_comm (d x y : α) : ∀ (f g : Nat) (t : T α) (k j : Nat), k ≠ j → setF d y g (setF d x f t k) j = setF d x f (setF d y g t j) k
  | 0, _, _, _, _, _ => rfl
  | _ + 1, 0, _, _, _, _ => rfl
  | f + 1, g + 1, t, k, j, h => by
    rcases cases3 k with rfl | ⟨m, rfl⟩ | ⟨m, rfl⟩ <;> rcases cases3 j with rfl | ⟨i, rfl⟩ | ⟨i, rfl⟩
    · exact absurd rfl h
    · simp only [setF_zero, setF_odd, left_node, right_node, val_node]
    · simp only [setF_zero, setF_even, left_node, right_node, val_node]
    · simp only [setF_zero, setF_odd, left_node, right_node, val_node]
    · simp only [setF_odd, left_node, right_node, val_node]
      rw [setF_comm d x y f g t.left m i (by omega)]
    · simp only [setF_odd, setF_even, left_node, right_node, val_node]
    · simp only [setF_zero, setF_even, left_node, right_node, val_node]
    · simp only [setF_odd, setF_even, left_node, right_node, val_node]
    · simp only [setF_even, left_node, right_node, val_node]
      rw [setF_comm d x y f g t.right m i (by omega)]
theorem set_comm (d x y : α) (t : T α) {k j : Nat} (h : k ≠ j) : (t.set d k x).set d j y = (t.set d j y).set d k x := setF_comm d x y _ _ t k j h
theorem setF_self (d : α) : ∀ (f : Nat) (t : T α) (k : Nat), k + 1 < 2 ^ f → t.get d k ≠ d → setF d (t.get d k) f t k = t
  | 0, _, _, h, _ => by simp at h
  | f + 1, t, k, h, hd => by
    rw [Nat.pow_succ] at h
    cases t with
    | leaf => exact absurd rfl hd
    | node v l r =>
      rcases cases3 k with rfl | ⟨m, rfl⟩ | ⟨m, rfl⟩
      · rw [get_zero, setF_zero]; rfl
      · rw [get_odd] at hd ⊢
        rw [setF_odd, left_node, right_node, val_node, setF_self d f l m (by omega) hd]
      · rw [get_even] at hd ⊢
        rw [setF_even, left_node, right_node, val_node, setF_self d f r m (by omega) hd]
theorem set_self (d : α) (t : T α) (k : Nat) (hd : t.get d k ≠ d) : t.set d k (t.get d k) = t := by
  unfold set
  refine setF_self d _ t k ?_ hd
  have h := Nat.lt_log2_self (n := k + 1)
  rw [Nat.succ_eq_add_one, Nat.succ_eq_add_one]
  exact h
end T

theorem Heap.put_put (H : Heap) (b : Nat) (x y : Blk) : (H.put b x).put b y = H.put b y := by
  unfold Heap.put; simp only [T.set_set]
theorem Heap.put_comm (H : Heap) {b c : Nat} (x y : Blk) (h : b ≠ c) : (H.put b x).put c y = (H.put c y).put b x := by
  unfold Heap.put; simp only [T.set_comm _ _ _ _ h]
theorem Heap.put_self (H : Heap) {b : Nat} {x : Blk} (h : H.get b = x) (hx : x ≠ .gone) : H.put b x = H := by
  have hlt : b < H.size := Nat.lt_of_not_le fun e => hx (by rw [← h, Heap.get_ge H e])
  have h2 := h
  rw [Heap.get_eq, if_pos hlt] at h2
  unfold Heap.put
  rw [← h2, T.set_self]
  rw [h2]; exact hx

noncomputable def forgetH (b : Nat) (H : Heap) : Heap := br (H.get b).ro H (H.put b .dead)
noncomputable def anyB (_ : St) (_ : List ME) : Bool := true
/-- No key twice. -/
noncomputable def freshB (k : AV) (es : List ME) : Bool := List.rec true (fun e _ ih => match keyEq k e.k with
  | some b => br b false ih
  | none => false) es
noncomputable def nodupB (es : List ME) : Bool := List.rec true (fun e l ih => br (freshB e.k l) ih false) es
section
variable {R σ : Type}
def runG (g : ME → σ → Option R ⊕ σ) (fin : σ → Option R) : List ME → σ → Option R
  | [], x => fin x
  | e :: l, x => match g e x with
    | .inl o => o
    | .inr x' => runG g fin l x'
def bindG (p : Option R ⊕ σ) (g : σ → Option R ⊕ σ) : Option R ⊕ σ :=
  match p with
  | .inl o => .inl o
  | .inr x => g x
theorem runG_perm {g : ME → σ → Option R ⊕ σ} {fin : σ → Option R} {es : List ME} (hc : ∀ e1 ∈ es, ∀ e2 ∈ es, ∀ x, bindG (g e1 x) (g e2) = bindG (g e2 x) (g e1)) {l l' : List ME} (hp : l.Perm l') : (∀ e ∈ l, e ∈ es) → ∀ x, runG g fin l x = runG g fin l' x := by
  induction hp with
  | nil => intro _ x; rfl
  | cons e _ ih =>
    intro hs x
    unfold runG
    split
    · rfl
    · exact ih (fun e he => hs e (List.mem_cons_of_mem _ he)) _
  | swap e1 e2 l =>
    intro hs x
    have := hc e2 (hs _ List.mem_cons_self) e1 (hs _ (List.mem_cons_of_mem _ List.mem_cons_self)) x
    unfold bindG at this
    simp only [runG]
    cases h1 : g e1 x <;> cases h2 : g e2 x <;> rw [h1, h2] at this <;> simp only at this ⊢
    · exact Sum.inl.inj this.symm |>.symm
    · rw [this]
    · rw [← this]
    · rw [this]
  | trans h1 h2 ih1 ih2 =>
    intro hs x
    rw [ih1 hs x, ih2 (fun e he => hs e (h1.mem_iff.2 he)) x]

theorem leftE_perm {es : List ME} {hi : Nat} (hinc : incB hi es 0 = true) {seen : List Nat} {e : ME} (he : e ∈ leftE seen es) : (leftE seen es).Perm (e :: leftE (seen ++ [e.born]) es) := by
  have key : ∀ (l : List ME) (lo : Nat), incB hi l lo = true → e ∈ leftE seen l → (leftE seen l).Perm (e :: leftE (seen ++ [e.born]) l) := by
    intro l
    induction l with
    | nil => intro lo _ h; cases h
    | cons x l ih =>
      intro lo hl hm
      have hl' : br (Nat.ble lo x.born) (incB hi l (x.born + 1)) false = true := hl
      cases hq : Nat.ble lo x.born with
      | false => rw [hq] at hl'; cases hl'
      | true =>
        rw [hq, br_true] at hl'
        have e1 : ∀ sn, leftE sn (x :: l) = br (memB sn x.born) (leftE sn l) (x :: leftE sn l) := fun _ => rfl
        rw [e1, e1]
        by_cases hx : x.born = e.born
        · have hxe : x = e := incB_inj hl List.mem_cons_self (leftE_mem.1 hm).1 hx
          subst hxe
          have hn : memB seen x.born = false := by
            cases hb : memB seen x.born with
            | false => rfl
            | true => exact absurd (memB_mem.1 hb) (leftE_mem.1 hm).2
          rw [hn, br_false, show memB (seen ++ [x.born]) x.born = true from memB_mem.2 (by simp), br_true]
          refine .cons _ ?_
          have : leftE (seen ++ [x.born]) l = leftE seen l := by
            have : ∀ (l2 : List ME), (∀ y ∈ l2, y.born ≠ x.born) → leftE (seen ++ [x.born]) l2 = leftE seen l2 := by
              intro l2
              induction l2 with
              | nil => intro _; rfl
              | cons y l2 ih2 =>
                intro hy
                have e2 : ∀ sn, leftE sn (y :: l2) = br (memB sn y.born) (leftE sn l2) (y :: leftE sn l2) := fun _ => rfl
                rw [e2, e2, ih2 (fun z hz => hy z (List.mem_cons_of_mem _ hz))]
                have : memB (seen ++ [x.born]) y.born = memB seen y.born := by
                  rw [Bool.eq_iff_iff, memB_mem, memB_mem]
                  simp [hy y List.mem_cons_self]
                rw [this]
            exact this l fun y hy => by have := (incB_all hl').2 y hy; omega
          rw [this]
        · have hm' : e ∈ leftE seen l := by
            rw [e1] at hm
            cases hb : memB seen x.born with
            | true => rw [hb, br_true] at hm; exact hm
            | false =>
              rw [hb, br_false] at hm
              rcases List.mem_cons.1 hm with rfl | h
              · exact absurd rfl hx
              · exact h
          have hmem : memB (seen ++ [e.born]) x.born = memB seen x.born := by
            rw [Bool.eq_iff_iff, memB_mem, memB_mem]
            simp [hx]
          rw [hmem]
          cases hb : memB seen x.born with
          | true => rw [br_true, br_true]; exact ih _ hl' hm'
          | false =>
            rw [br_false, br_false]
            exact (List.Perm.cons x (ih _ hl' hm')).trans (List.Perm.swap _ _ _)
  exact key es 0 hinc he

/-- A loop over a map whose rounds go past one another. -/
theorem site_of_run {fb : Ev R} {pl : Plan} {q : RP} {b m since clock : Nat} {es : List ME} {ke : Nat → St → Option R} {kr : St → Option R} {r : R} (st : σ → List Nat → Nat → St) (g : ME → σ → Option R ⊕ σ) (fin : σ → Option R)
    (hinc : incB since es 0 = true) (hsc : since ≤ clock)
    (hit : ∀ x seen last, (st x seen last).t.get .bad q.it = .ptr (some ⟨b, 0, 0⟩)) (hib : ∀ x seen last, (st x seen last).h.get b = .iter (some m) since seen last) (him : ∀ x seen last, (st x seen last).h.get m = .map es clock)
    (hB : ∀ e ∈ es, ∀ x seen last, ∀ kn : St → Option R, fb q.body (inS q b m since seen clock e (st x seen last)) (fun s' => kn (keepS (pl.ins q.r) s')) (keR pl q b ke) (krR pl q b kr) = match g e x with | .inl o => o | .inr x' => kn (st x' (seen ++ [e.born]) clock))
    (hX : ∀ x seen last, keR pl q b ke q.bid (outS q (st x seen last)) = fin x)
    (hc : ∀ e1 ∈ es, ∀ e2 ∈ es, ∀ x, bindG (g e1 x) (g e2) = bindG (g e2 x) (g e1)) :
    ∀ (seen : List Nat) (last : Nat) (x : σ), since ≤ last → walkK fb pl q b m since clock ke kr (leftE seen es) seen (st x seen last) = some r → ∃ N, PermP fb pl q b m since clock es ke kr r N seen last (st x seen last) := by
  have hwalk : ∀ (l : List ME), (∀ e ∈ l, e ∈ es) → ∀ seen last x, walkK fb pl q b m since clock ke kr l seen (st x seen last) = runG g fin l x := by
    intro l
    induction l with
    | nil => intro _ seen last x; exact hX x seen last
    | cons e l ih =>
      intro hs seen last x
      refine (hB e (hs e List.mem_cons_self) x seen last (fun s' => walkK fb pl q b m since clock ke kr l (seen ++ [e.born]) s')).trans ?_
      unfold runG
      split
      · rfl
      · exact ih (fun e he => hs e (List.mem_cons_of_mem _ he)) _ _ _
  have hperm : ∀ (k : Nat) (seen : List Nat) (last : Nat) (x : σ), (leftE seen es).length = k → since ≤ last → runG g fin (leftE seen es) x = some r → PermP fb pl q b m since clock es ke kr r (k + 1) seen last (st x seen last) := by
    intro k
    induction k with
    | zero =>
      intro seen last x hk hl hr
      have h0 := List.length_eq_zero_iff.1 hk
      refine ⟨hit _ _ _, hib _ _ _, him _ _ _, hl, fun _ => ?_, fun e he => ?_⟩
      · rw [h0] at hr; rw [hX]; exact hr
      · rw [h0] at he; cases he
    | succ k ih =>
      intro seen last x hk hl hr
      refine ⟨hit _ _ _, hib _ _ _, him _ _ _, hl, fun h0 => ?_, fun e he => ?_⟩
      · rw [h0] at hk; cases hk
      · have hp := leftE_perm hinc he
        rw [runG_perm hc hp (fun e he => (leftE_mem.1 he).1)] at hr
        refine (hB e (leftE_mem.1 he).1 x seen last (fun s' => open Classical in if PermP fb pl q b m since clock es ke kr r (k + 1) (seen ++ [e.born]) clock s' then some r else none)).trans ?_
        cases hx' : g e x with
        | inl o =>
          unfold runG at hr
          rw [hx'] at hr
          exact hr
        | inr x' =>
          unfold runG at hr
          rw [hx'] at hr
          have hlen := hp.length_eq
          rw [hk, List.length_cons] at hlen
          have := ih (seen ++ [e.born]) clock x' (by omega) hsc hr
          exact if_pos this
  intro seen last x hl h
  rw [hwalk _ (fun e he => (leftE_mem.1 he).1)] at h
  exact ⟨_, hperm _ seen last x rfl hl h⟩

theorem lastN_append (l : List Nat) (n : Nat) : lastN (l ++ [n]) = some n := by rw [lastN_eq]; simp
theorem entryS_at {H : Heap} {b m since clock : Nat} {es : List ME} {e : ME} {seen : List Nat} (hb : b < H.size) (hm : H.get m = .map es clock) (hne : m ≠ b) (hf : findB es e.born = some e) (k : ME → Option R) :
    entryS (H.put b (.iter (some m) since (seen ++ [e.born]) clock)) ⟨b, 0, 0⟩ k = k e := by
  unfold entryS
  rw [Heap.get_put_same H b _ hb]
  have h2 : (H.put b (.iter (some m) since (seen ++ [e.born]) clock)).mapAt m = some (es, clock) := by
    unfold Heap.mapAt
    rw [Heap.get_put_ne H _ hne, hm]
  show (some m).bind _ = _
  rw [Option.bind_some, lastN_append, Option.bind_some, h2, Option.bind_some, Nat.beq_refl, br_true, hf, Option.bind_some]
theorem forgetH_iter {H : Heap} {b : Nat} {m : Option Nat} {since last : Nat} {seen : List Nat} (hb : b < H.size) : forgetH b (H.put b (.iter m since seen last)) = H.put b .dead := by
  unfold forgetH
  rw [Heap.get_put_same H b _ hb, Heap.put_put]
  rfl
theorem size_of_get {H : Heap} {b : Nat} {x : Blk} (h : H.get b = x) (hx : x ≠ .gone) : b < H.size := Nat.lt_of_not_le fun e => hx (by rw [← h, Heap.get_ge H e])

def ptrB (v : AV) (k : AA → Bool) : Bool :=
  match v with
  | .ptr (some a) => k a
  | _ => false
def slB (v : AV) (k : Sl → Bool) : Bool :=
  match v with
  | .sl a => k a
  | _ => false
noncomputable def ownB (x : Blk) (g : Nat) (b : Bool) : Bool :=
  match x with
  | .cells _ g0 _ old ro => match old with
    | [] => br ro false (br (Nat.beq g0 g) b false)
    | _ => false
  | _ => false
theorem kdB_int {k : IntKind} {v : AV} (h : kdB (.int k) v = true) : ∃ n, v = .int k n := by
  cases v <;> simp only [kdB, reduceCtorEq] at h
  have := kEq_eq h; subst this; exact ⟨_, rfl⟩
theorem kdB_bool {v : AV} (h : kdB .bool v = true) : ∃ n, v = .bool n := by
  cases v <;> simp only [kdB, reduceCtorEq] at h
  exact ⟨_, rfl⟩
theorem kdB_sl {v : AV} (h : kdB .sl v = true) : ∃ n, v = .sl n := by
  cases v <;> simp only [kdB, reduceCtorEq] at h
  exact ⟨_, rfl⟩
theorem kdB_ptr {v : AV} (h : kdB .ptr v = true) : ∃ a, v = .ptr (some a) := by
  cases v <;> simp only [kdB, reduceCtorEq] at h
  rename_i a
  cases a with
  | none => simp at h
  | some a => exact ⟨a, rfl⟩
theorem kdB_agg {v : AV} (h : kdB .agg v = true) : ∃ n, v = .agg n := by
  cases v <;> simp only [kdB, reduceCtorEq] at h
  exact ⟨_, rfl⟩
theorem kdB_map {v : AV} (h : kdB .map v = true) : ∃ n, v = .map n := by
  cases v <;> simp only [kdB, reduceCtorEq] at h
  exact ⟨_, rfl⟩
theorem kdsB_cons {x : Nat × KD} {l : List (Nat × KD)} {t : T AV} (h : kdsB (x :: l) t = true) : kdB x.2 (t.get .bad x.1) = true ∧ kdsB l t = true := by
  have h' : br (kdB x.2 (t.get .bad x.1)) (kdsB l t) false = true := h
  cases hq : kdB x.2 (t.get .bad x.1) with
  | true => rw [hq] at h'; exact ⟨rfl, h'⟩
  | false => rw [hq] at h'; cases h'
/-- All keys are integers, and none is 0. -/
noncomputable def nzB (es : List ME) : Bool := List.rec true (fun e _ ih => match e.k with
  | .int _ n => br (eqI n 0) false ih
  | _ => false) es
theorem nzB_all : ∀ {es : List ME}, nzB es = true → ∀ e ∈ es, ∃ k n, e.k = .int k n ∧ n ≠ 0
  | [], _, e, he => by cases he
  | x :: es, h, e, he => by
    have h' : (match x.k with | .int _ n => br (eqI n 0) false (nzB es) | _ => false) = true := h
    split at h'
    · rename_i k n hk
      cases hq : eqI n 0 with
      | true => rw [hq] at h'; cases h'
      | false =>
        rw [hq, br_false] at h'
        rcases List.mem_cons.1 he with rfl | he
        · exact ⟨k, n, hk, fun e => by rw [e] at hq; cases hq⟩
        · exact nzB_all h' e he
    · cases h'
noncomputable def rngB (es : List ME) : Bool := List.rec true (fun e _ ih => match e.k with
  | .int _ n => br (ltI 0 n) (br (ltI n 1000000000) ih false) false
  | _ => false) es
theorem rngB_all : ∀ {es : List ME}, rngB es = true → ∀ e ∈ es, ∃ k n, e.k = .int k n ∧ 0 < n ∧ n < 1000000000
  | [], _, e, he => by cases he
  | x :: es, h, e, he => by
    have h' : (match x.k with | .int _ n => br (ltI 0 n) (br (ltI n 1000000000) (rngB es) false) false | _ => false) = true := h
    split at h'
    · rename_i k n hk
      cases hq : ltI 0 n with
      | false => rw [hq] at h'; cases h'
      | true =>
        cases hq2 : ltI n 1000000000 with
        | false => rw [hq, hq2] at h'; cases h'
        | true =>
          rw [hq, hq2, br_true, br_true] at h'
          rw [ltI_eq] at hq hq2
          rcases List.mem_cons.1 he with rfl | he
          · exact ⟨k, n, hk, of_decide_eq_true hq, of_decide_eq_true hq2⟩
          · exact rngB_all h' e he
    · cases h'
noncomputable def preNZ (_ : St) (es : List ME) : Bool := nzB es
/-- A number, a cell of a slice that a pointer leads to: whether it is less than the entry's. -/
noncomputable def lessO (H : Heap) (p : AA) (e : ME) : Option Bool :=
  (asI .i64 e.k).bind fun n12 => (asI .i64 e.v).bind fun n13 => (Heap.at H p).bind fun c14 => (asSl c14).bind fun s15 => bindI (wr .i64 (n12 - (1 : Int))) fun n16 => (idxN n16 s15.n).bind fun m17 => s15.a.bind fun a18 => (Heap.at H ⟨a18.b, a18.g, Nat.add a18.o (Nat.mul m17 1)⟩).bind fun c19 => (asI .i64 c19).bind fun n20 => some (ltI n20 n13)
noncomputable def preLess (t : Nat) (s : St) (es : List ME) : Bool := ptrB (s.t.get .bad t) fun p => List.rec true (fun e _ ih => Option.rec false (fun _ => ih) (lessO s.h p e)) es
/-- A slice of its own, of which no elder form is known. -/
noncomputable def preOwn (t : Nat) (s : St) (es : List ME) : Bool := slB (s.t.get .bad t) fun v => Option.rec false (fun a => ownB (s.h.get a.b) a.g (br (rngB es) (nodupB es) false)) v.a
theorem eqI_dec (a b : Int) : eqI a b = decide (a = b) := by
  rw [eqI_eq, Bool.eq_iff_iff]; simp
theorem asI_some' {k : IntKind} {n : Int} : asI k (.int k n) = some n := by
  unfold asI; simp [kEq_refl]
end
end Go.Ab
