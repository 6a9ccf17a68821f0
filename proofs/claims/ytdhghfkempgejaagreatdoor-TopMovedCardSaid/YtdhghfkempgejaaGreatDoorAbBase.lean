/- The abstract machine, 1: abstract values and the abstract heap, and how the model's values and worlds represent them. -/
import Derived.Laws.AppendOwn
import Derived.Below
namespace Go.Ab
open Go.RowKit

/-- An abstract address: block, generation, cell. -/
structure AA where
  b : Nat
  g : Nat
  o : Nat
  deriving DecidableEq

/-- A capacity: known, or not known (at least the length; an element has so many cells). -/
inductive Cap where
  | known (c : Nat)
  | unk (z : Nat)
  deriving DecidableEq

/-- An abstract slice: where it begins, its length, its capacity. -/
structure Sl where
  a : Option AA
  n : Nat
  c : Cap
  deriving DecidableEq
def Cap.low : Cap → Nat → Nat
  | .known c, _ => c
  | .unk _, n => n

inductive AV where
  | bad
  | bool (b : Bool)
  | int (k : IntKind) (n : Int)
  | str (s : ByteArray)
  | ptr (a : Option AA)
  | sl (s : Sl)
  | map (m : Option Nat)
  | fn (f : Fn) (first cap : List AV)
  | nilFn
  | iface (t : TypeId) (v : AV)
  | nilIface
  | agg (l : List AV)
  | tuple (l : List AV)
  deriving Inhabited

def AV.cells : AV → List AV
  | .agg l => l
  | v => [v]

/-- Lazy choice by a Bool. -/
noncomputable abbrev br {α : Type} (b : Bool) (t f : α) : α := Bool.rec (motive := fun _ => α) f t b
@[simp] theorem br_true {α : Type} (t f : α) : br true t f = t := rfl
@[simp] theorem br_false {α : Type} (t f : α) : br false t f = f := rfl
theorem br_decide {α : Type} (p : Prop) [Decidable p] (t f : α) : br (decide p) t f = if p then t else f := by
  by_cases h : p <;> simp [h]

/-! ### A binary tree by numbers -/
inductive T (α : Type) where
  | leaf
  | node (v : α) (l r : T α)

namespace T
variable {α : Type}
noncomputable def get (d : α) (t : T α) : Nat → α :=
  T.rec (fun _ => d) (fun v _ _ il ir k => br (Nat.beq k 0) v (br (Nat.beq (Nat.land k 1) 1) (il (Nat.shiftRight k 1)) (ir (Nat.sub (Nat.shiftRight k 1) 1)))) t

def val (d : α) : T α → α
  | leaf => d
  | node v _ _ => v
def left : T α → T α
  | leaf => leaf
  | node _ l _ => l
def right : T α → T α
  | leaf => leaf
  | node _ _ r => r

noncomputable def setF (d x : α) (f : Nat) : T α → Nat → T α :=
  Nat.rec (fun t _ => t) (fun _ ih t k => br (Nat.beq k 0) (.node x t.left t.right) (br (Nat.beq (Nat.land k 1) 1) (.node (t.val d) (ih t.left (Nat.shiftRight k 1)) t.right) (.node (t.val d) t.left (ih t.right (Nat.sub (Nat.shiftRight k 1) 1))))) f

noncomputable def set (d : α) (t : T α) (k : Nat) (x : α) : T α := setF d x (Nat.succ (Nat.log2 (Nat.succ k))) t k

theorem get_leaf (d : α) (k : Nat) : (leaf : T α).get d k = d := rfl
theorem get_zero (d v : α) (l r : T α) : (node v l r).get d 0 = v := rfl
theorem land_one (k : Nat) : Nat.land k 1 = k % 2 := by
  show k &&& 1 = k % 2
  exact Nat.and_one_is_mod k
theorem shr_one (k : Nat) : Nat.shiftRight k 1 = k / 2 := by
  show k >>> 1 = k / 2
  rw [Nat.shiftRight_eq_div_pow]
theorem get_odd (d v : α) (l r : T α) (m : Nat) : (node v l r).get d (2 * m + 1) = l.get d m := by
  show br (Nat.beq (2 * m + 1) 0) v (br (Nat.beq (Nat.land (2 * m + 1) 1) 1) (l.get d (Nat.shiftRight (2 * m + 1) 1)) (r.get d (Nat.sub (Nat.shiftRight (2 * m + 1) 1) 1))) = _
  rw [land_one, shr_one, show (2 * m + 1) / 2 = m by omega, show (2 * m + 1) % 2 = 1 by omega]
  rfl
theorem get_even (d v : α) (l r : T α) (m : Nat) : (node v l r).get d (2 * m + 2) = r.get d m := by
  show br (Nat.beq (2 * m + 2) 0) v (br (Nat.beq (Nat.land (2 * m + 2) 1) 1) (l.get d (Nat.shiftRight (2 * m + 2) 1)) (r.get d (Nat.sub (Nat.shiftRight (2 * m + 2) 1) 1))) = _
  rw [land_one, shr_one, show (2 * m + 2) / 2 = m + 1 by omega, show (2 * m + 2) % 2 = 0 by omega]
  show r.get d (Nat.sub (m + 1) 1) = r.get d m
  rfl
theorem setF_zero (d x : α) (f : Nat) (t : T α) : setF d x (f + 1) t 0 = .node x t.left t.right := rfl
theorem setF_odd (d x : α) (f : Nat) (t : T α) (m : Nat) : setF d x (f + 1) t (2 * m + 1) = .node (t.val d) (setF d x f t.left m) t.right := by
  show br (Nat.beq (2 * m + 1) 0) (T.node x t.left t.right) (br (Nat.beq (Nat.land (2 * m + 1) 1) 1) (T.node (t.val d) (setF d x f t.left (Nat.shiftRight (2 * m + 1) 1)) t.right) (T.node (t.val d) t.left (setF d x f t.right (Nat.sub (Nat.shiftRight (2 * m + 1) 1) 1)))) = _
  rw [land_one, shr_one, show (2 * m + 1) / 2 = m by omega, show (2 * m + 1) % 2 = 1 by omega]
  rfl
theorem setF_even (d x : α) (f : Nat) (t : T α) (m : Nat) : setF d x (f + 1) t (2 * m + 2) = .node (t.val d) t.left (setF d x f t.right m) := by
  show br (Nat.beq (2 * m + 2) 0) (T.node x t.left t.right) (br (Nat.beq (Nat.land (2 * m + 2) 1) 1) (T.node (t.val d) (setF d x f t.left (Nat.shiftRight (2 * m + 2) 1)) t.right) (T.node (t.val d) t.left (setF d x f t.right (Nat.sub (Nat.shiftRight (2 * m + 2) 1) 1)))) = _
  rw [land_one, shr_one, show (2 * m + 2) / 2 = m + 1 by omega, show (2 * m + 2) % 2 = 0 by omega]
  rfl
theorem cases3 (k : Nat) : k = 0 ∨ (∃ m, k = 2 * m + 1) ∨ ∃ m, k = 2 * m + 2 := by
  rcases Nat.eq_zero_or_pos k with h | h
  · exact .inl h
  · rcases Nat.mod_two_eq_zero_or_one k with e | e
    · exact .inr (.inr ⟨k / 2 - 1, by omega⟩)
    · exact .inr (.inl ⟨k / 2, by omega⟩)
theorem get_val (d : α) (t : T α) : t.get d 0 = t.val d := by cases t <;> rfl
theorem get_left (d : α) (t : T α) (m : Nat) : t.get d (2 * m + 1) = t.left.get d m := by
  cases t with
  | leaf => rfl
  | node v l r => exact get_odd d v l r m
theorem get_right (d : α) (t : T α) (m : Nat) : t.get d (2 * m + 2) = t.right.get d m := by
  cases t with
  | leaf => rfl
  | node v l r => exact get_even d v l r m
theorem get_setF (d x : α) : ∀ (f : Nat) (t : T α) (k j : Nat), k + 1 < 2 ^ f → (setF d x f t k).get d j = if j = k then x else t.get d j
  | 0, _, _, _, h => by simp at h
  | f + 1, t, k, j, h => by
    rw [Nat.pow_succ] at h
    rcases cases3 k with rfl | ⟨m, rfl⟩ | ⟨m, rfl⟩
    · rw [setF_zero]
      rcases cases3 j with rfl | ⟨i, rfl⟩ | ⟨i, rfl⟩
      · simp [get_zero]
      · rw [get_odd, get_left, if_neg (by omega)]
      · rw [get_even, get_right, if_neg (by omega)]
    · rw [setF_odd]
      rcases cases3 j with rfl | ⟨i, rfl⟩ | ⟨i, rfl⟩
      · rw [get_zero, get_val, if_neg (by omega)]
      · rw [get_odd, get_left, get_setF d x f t.left m i (by omega)]
        by_cases e : i = m
        · subst e; simp
        · rw [if_neg e, if_neg (by omega)]
      · rw [get_even, get_right, if_neg (by omega)]
    · rw [setF_even]
      rcases cases3 j with rfl | ⟨i, rfl⟩ | ⟨i, rfl⟩
      · rw [get_zero, get_val, if_neg (by omega)]
      · rw [get_odd, get_left, if_neg (by omega)]
      · rw [get_even, get_right, get_setF d x f t.right m i (by omega)]
        by_cases e : i = m
        · subst e; simp
        · rw [if_neg e, if_neg (by omega)]
theorem get_set (d x : α) (t : T α) (k j : Nat) : (t.set d k x).get d j = if j = k then x else t.get d j := by
  unfold set
  refine get_setF d x _ t k j ?_
  have h := Nat.lt_log2_self (n := k + 1)
  rw [Nat.succ_eq_add_one, Nat.succ_eq_add_one]
  exact h
end T

/-! ### The heap -/
structure ME where
  k : AV
  v : AV
  born : Nat

inductive Blk where
  | gone
  /-- the element's type, the newest generation, the cells, older generations that still hold (and how many cells each has), whether it may not be written -/
  | cells (e : TypeId) (g : Nat) (data : List AV) (old : List (Nat × Nat)) (ro : Bool)
  | map (es : List ME) (clock : Nat)
  /-- an iterator over a map (none: a nil one): since when, what was seen, when it stepped last -/
  | iter (m : Option Nat) (since : Nat) (seen : List Nat) (last : Nat)
  /-- an iterator over a string -/
  | siter (s : ByteArray) (pos : Nat)
  /-- a block of which nothing is known any more -/
  | dead

structure Heap where
  t : T Blk
  size : Nat

noncomputable def Heap.get (H : Heap) (b : Nat) : Blk := br (Nat.blt b H.size) (H.t.get .gone b) .gone
noncomputable def Heap.put (H : Heap) (b : Nat) (x : Blk) : Heap := ⟨H.t.set .gone b x, H.size⟩
noncomputable def Heap.push (H : Heap) (x : Blk) : Heap := ⟨H.t.set .gone H.size x, Nat.succ H.size⟩

@[simp] theorem Heap.size_put (H : Heap) (b : Nat) (x : Blk) : (H.put b x).size = H.size := rfl
@[simp] theorem Heap.size_push (H : Heap) (x : Blk) : (H.push x).size = H.size + 1 := rfl
theorem Heap.get_eq (H : Heap) (b : Nat) : H.get b = if b < H.size then H.t.get .gone b else .gone := by
  show br (Nat.blt b H.size) (H.t.get .gone b) .gone = _
  cases h : Nat.blt b H.size with
  | true => rw [if_pos (by rwa [Nat.blt_eq] at h)]
  | false =>
    have : ¬ b < H.size := fun e => by rw [← Nat.blt_eq] at e; rw [e] at h; cases h
    rw [if_neg this]
theorem Heap.get_put (H : Heap) (b c : Nat) (x : Blk) (h : b < H.size) : (H.put b x).get c = if c = b then x else H.get c := by
  rw [Heap.get_eq, Heap.get_eq, Heap.size_put]
  show (if c < H.size then (H.t.set Blk.gone b x).get .gone c else .gone) = _
  rw [T.get_set]
  by_cases e : c = b
  · subst e; rw [if_pos rfl, if_pos rfl, if_pos h]
  · rw [if_neg e, if_neg e]
theorem Heap.get_push (H : Heap) (c : Nat) (x : Blk) : (H.push x).get c = if c = H.size then x else H.get c := by
  rw [Heap.get_eq, Heap.get_eq, Heap.size_push]
  show (if c < H.size + 1 then (H.t.set Blk.gone H.size x).get .gone c else .gone) = _
  rw [T.get_set]
  by_cases e : c = H.size
  · subst e; rw [if_pos (Nat.lt_succ_self _), if_pos rfl, if_pos rfl]
  · rw [if_neg e, if_neg e]
    by_cases h : c < H.size
    · rw [if_pos (by omega), if_pos h]
    · rw [if_neg (by omega), if_neg h]
theorem Heap.get_put_same (H : Heap) (b : Nat) (x : Blk) (h : b < H.size) : (H.put b x).get b = x := by rw [Heap.get_put H b b x h, if_pos rfl]
theorem Heap.get_put_ne (H : Heap) {b c : Nat} (x : Blk) (h : c ≠ b) : (H.put b x).get c = H.get c := by
  rw [Heap.get_eq, Heap.get_eq, Heap.size_put]
  show (if c < H.size then (H.t.set Blk.gone b x).get .gone c else .gone) = _
  rw [T.get_set, if_neg h]
theorem Heap.get_ge (H : Heap) {b : Nat} (h : H.size ≤ b) : H.get b = .gone := by rw [Heap.get_eq, if_neg (by omega)]
@[simp] theorem Heap.get_push_new (H : Heap) (x : Blk) : (H.push x).get H.size = x := by rw [Heap.get_push, if_pos rfl]
theorem Heap.get_push_old (H : Heap) {c : Nat} (x : Blk) (h : c < H.size) : (H.push x).get c = H.get c := by rw [Heap.get_push, if_neg (by omega)]
/-- What is there stays, if a block comes. -/
theorem Heap.get_push_keep (H : Heap) {c : Nat} (x : Blk) (h : H.get c ≠ .gone) : (H.push x).get c = H.get c := by
  have : c < H.size := Nat.lt_of_not_le fun e => h (Heap.get_ge H e)
  exact Heap.get_push_old H x this

/-- How many cells a generation has; 'none': it does not hold any more. -/
noncomputable def oldLen (l : List (Nat × Nat)) (g : Nat) : Option Nat :=
  List.rec Option.none (fun x _ ih => br (Nat.beq x.1 g) (some x.2) ih) l
theorem oldLen_nil (g : Nat) : oldLen [] g = Option.none := rfl
theorem oldLen_cons (x : Nat × Nat) (l : List (Nat × Nat)) (g : Nat) : oldLen (x :: l) g = if x.1 = g then some x.2 else oldLen l g := by
  show br (Nat.beq x.1 g) (some x.2) (oldLen l g) = _
  cases h : Nat.beq x.1 g with
  | true => rw [if_pos (Nat.eq_of_beq_eq_true h)]
  | false => rw [if_neg (Nat.ne_of_beq_eq_false h)]

noncomputable def Blk.len : Blk → Nat → Option Nat
  | .cells _ g data old _, j => br (Nat.beq g j) (some data.length) (oldLen old j)
  | _, _ => Option.none
def Blk.ro : Blk → Bool
  | .cells _ _ _ _ r => r
  | _ => false
def Blk.data : Blk → List AV
  | .cells _ _ d _ _ => d
  | _ => []

theorem Blk.len_cells (e : TypeId) (g : Nat) (data : List AV) (old : List (Nat × Nat)) (ro : Bool) (j : Nat) :
    (Blk.cells e g data old ro).len j = if g = j then some data.length else oldLen old j := by
  show br (Nat.beq g j) (some data.length) (oldLen old j) = _
  cases h : Nat.beq g j with
  | true => rw [if_pos (Nat.eq_of_beq_eq_true h)]
  | false => rw [if_neg (Nat.ne_of_beq_eq_false h)]

/-! ### Representation -/
/-- Where a generation of a block lies: the model's block, the first cell that lies there, its place, the block's cells. -/
structure Loc where
  cb : Nat
  lo : Nat
  s : Nat
  size : Nat

abbrev Ren := Nat → Nat → Option Loc

def Loc.at (l : Loc) (o : Nat) : Addr := ⟨l.cb, l.s + (o - l.lo), none⟩

mutual
inductive VR (ρ : Ren) : AV → Value → Prop where
  | bad (v : Value) : VR ρ .bad v
  | bool (b : Bool) : VR ρ (.bool b) (.bool b)
  | int (k : IntKind) (n : Int) : VR ρ (.int k n) (.int k n)
  | str (s : ByteArray) : VR ρ (.str s) (.string s)
  | nilPtr : VR ρ (.ptr none) (.pointer none)
  | ptr {a : AA} {l : Loc} : ρ a.b a.g = some l → l.lo ≤ a.o → VR ρ (.ptr (some a)) (.pointer (some (l.at a.o)))
  | nilSl (n c : Nat) : VR ρ (.sl ⟨none, n, .known c⟩) (.slice none n c)
  | sl {a : AA} {l : Loc} (n c : Nat) : ρ a.b a.g = some l → l.lo ≤ a.o → VR ρ (.sl ⟨some a, n, .known c⟩) (.slice (some (l.at a.o)) n c)
  | slU {a : AA} {l : Loc} (n c z : Nat) : ρ a.b a.g = some l → l.lo ≤ a.o → n ≤ c → l.s + (a.o - l.lo) + c * z ≤ l.size → VR ρ (.sl ⟨some a, n, .unk z⟩) (.slice (some (l.at a.o)) n c)
  | slE {a : AA} {l : Loc} (x : Addr) (c : Cap) : ρ a.b a.g = some l → l.lo ≤ a.o → c.low 0 = 0 → VR ρ (.sl ⟨some a, 0, c⟩) (.slice (some x) 0 0)
  | nilMap : VR ρ (.map none) (.map none)
  | map {r : Nat} {l : Loc} : ρ r 0 = some l → VR ρ (.map (some r)) (.map (some l.cb))
  | fn {f : Fn} {a c : List AV} {a' c' : Array Value} : VRs ρ a a'.toList → VRs ρ c c'.toList → VR ρ (.fn f a c) (.func f a' c')
  | nilFn : VR ρ .nilFn .nilFunc
  | iface {t : TypeId} {v : AV} {v' : Value} : VR ρ v v' → VR ρ (.iface t v) (.iface t v')
  | nilIface : VR ρ .nilIface .nilIface
  | agg {l : List AV} {c : Array Value} : VRs ρ l c.toList → VR ρ (.agg l) (.agg c)
  | tuple {l : List AV} {c : Array Value} : VRs ρ l c.toList → VR ρ (.tuple l) (.tuple c)
inductive VRs (ρ : Ren) : List AV → List Value → Prop where
  | nil : VRs ρ [] []
  | cons {v : AV} {v' : Value} {l : List AV} {l' : List Value} : VR ρ v v' → VRs ρ l l' → VRs ρ (v :: l) (v' :: l')
end

def Ren.le (ρ ρ' : Ren) : Prop := ∀ b g l, ρ b g = some l → ρ' b g = some l
theorem Ren.le_refl (ρ : Ren) : ρ.le ρ := fun _ _ _ h => h
theorem Ren.le_trans {a b c : Ren} (h : a.le b) (k : b.le c) : a.le c := fun _ _ _ e => k _ _ _ (h _ _ _ e)

mutual
theorem VR.mono {ρ ρ' : Ren} (h : ρ.le ρ') : ∀ {v : AV} {v' : Value}, VR ρ v v' → VR ρ' v v'
  | _, _, .bad v => .bad v
  | _, _, .bool b => .bool b
  | _, _, .int k n => .int k n
  | _, _, .str s => .str s
  | _, _, .nilPtr => .nilPtr
  | _, _, .ptr e i => .ptr (h _ _ _ e) i
  | _, _, .nilSl n c => .nilSl n c
  | _, _, .sl n c e i => .sl n c (h _ _ _ e) i
  | _, _, .slU n c z e i j k => .slU n c z (h _ _ _ e) i j k
  | _, _, .slE x c e i j => .slE x c (h _ _ _ e) i j
  | _, _, .nilMap => .nilMap
  | _, _, .map e => .map (h _ _ _ e)
  | _, _, .fn a b => .fn (VRs.mono h a) (VRs.mono h b)
  | _, _, .nilFn => .nilFn
  | _, _, .iface a => .iface (VR.mono h a)
  | _, _, .nilIface => .nilIface
  | _, _, .agg a => .agg (VRs.mono h a)
  | _, _, .tuple a => .tuple (VRs.mono h a)
theorem VRs.mono {ρ ρ' : Ren} (h : ρ.le ρ') : ∀ {l : List AV} {l' : List Value}, VRs ρ l l' → VRs ρ' l l'
  | _, _, .nil => .nil
  | _, _, .cons a b => .cons (VR.mono h a) (VRs.mono h b)
end

theorem VRs.length {ρ : Ren} : ∀ {l : List AV} {l' : List Value}, VRs ρ l l' → l.length = l'.length
  | _, _, .nil => rfl
  | _, _, .cons _ b => by simp [VRs.length b]
theorem VRs.get {ρ : Ren} : ∀ {l : List AV} {l' : List Value} (_ : VRs ρ l l') {i : Nat} {v : AV}, l[i]? = some v → ∃ v', l'[i]? = some v' ∧ VR ρ v v'
  | _, _, .nil, i, v, h => by simp at h
  | _, _, .cons a b, 0, v, h => by simp at h; subst h; exact ⟨_, rfl, a⟩
  | _, _, .cons a b, i + 1, v, h => by
    obtain ⟨v', e, r⟩ := VRs.get b (i := i) (v := v) (by simpa using h)
    exact ⟨v', by simpa using e, r⟩
theorem VRs.append {ρ : Ren} : ∀ {l m : List AV} {l' m' : List Value}, VRs ρ l l' → VRs ρ m m' → VRs ρ (l ++ m) (l' ++ m')
  | _, _, _, _, .nil, h => h
  | _, _, _, _, .cons a b, h => .cons a (VRs.append b h)
theorem VRs.of_get {ρ : Ren} : ∀ {l : List AV} {l' : List Value}, l.length = l'.length → (∀ (i : Nat) v v', l[i]? = some v → l'[i]? = some v' → VR ρ v v') → VRs ρ l l'
  | [], [], _, _ => .nil
  | [], _ :: _, h, _ => by simp at h
  | _ :: _, [], h, _ => by simp at h
  | v :: l, v' :: l', h, k => .cons (k 0 v v' rfl rfl) (VRs.of_get (by simpa using h) fun i x x' a b => k (i + 1) x x' (by simpa using a) (by simpa using b))
theorem VRs.take {ρ : Ren} (n : Nat) {l : List AV} {l' : List Value} (h : VRs ρ l l') : VRs ρ (l.take n) (l'.take n) :=
  VRs.of_get (by simp [h.length]) fun i v v' a b => by
    rw [List.getElem?_take] at a b
    split at a
    · rw [if_pos (by assumption)] at b
      obtain ⟨x, e, r⟩ := h.get a
      rw [e] at b; cases b; exact r
    · cases a
theorem VRs.drop {ρ : Ren} (n : Nat) {l : List AV} {l' : List Value} (h : VRs ρ l l') : VRs ρ (l.drop n) (l'.drop n) :=
  VRs.of_get (by simp [h.length]) fun i v v' a b => by
    rw [List.getElem?_drop] at a b
    obtain ⟨x, e, r⟩ := h.get a
    rw [e] at b; cases b; exact r

/-- The cells of a generation as the model holds them. -/
structure CellsRep (P : Program) (ρ : Ren) (w : World) (e : TypeId) (data : List AV) (n : Nat) (ro : Bool) (l : Loc) : Prop where
  le : n ≤ data.length
  room : l.s + (n - l.lo) ≤ l.size
  ex : ∃ (c : Array Value) (fr : Nat × Nat), (∃ e' : TypeId, w.heap[l.cb]? = some (.cells c e' fr) ∧ (ro = false → e' = e)) ∧ (ro = false → fr = (0, 0)) ∧ c.size = l.size ∧
    ∀ (o : Nat), l.lo ≤ o → o < n → ∃ v v', data[o]? = some v ∧ c[l.s + (o - l.lo)]? = some v' ∧ VR ρ v v'

structure EntryRep (ρ : Ren) (x : ME) (y : MapEntry) : Prop where
  k : VR ρ x.k y.key
  v : VR ρ x.v y.val
  born : x.born = y.born

inductive EntriesRep (ρ : Ren) : List ME → List MapEntry → Prop where
  | nil : EntriesRep ρ [] []
  | cons {x : ME} {y : MapEntry} {l : List ME} {l' : List MapEntry} : EntryRep ρ x y → EntriesRep ρ l l' → EntriesRep ρ (x :: l) (y :: l')
theorem EntryRep.mono {ρ ρ' : Ren} {x : ME} {y : MapEntry} (h : EntryRep ρ x y) (k : ρ.le ρ') : EntryRep ρ' x y := ⟨h.k.mono k, h.v.mono k, h.born⟩
theorem EntriesRep.mono {ρ ρ' : Ren} (k : ρ.le ρ') : ∀ {l : List ME} {l' : List MapEntry}, EntriesRep ρ l l' → EntriesRep ρ' l l'
  | _, _, .nil => .nil
  | _, _, .cons a b => .cons (a.mono k) (EntriesRep.mono k b)
theorem EntriesRep.length {ρ : Ren} : ∀ {l : List ME} {l' : List MapEntry}, EntriesRep ρ l l' → l.length = l'.length
  | _, _, .nil => rfl
  | _, _, .cons _ b => by simp [EntriesRep.length b]
theorem EntriesRep.append {ρ : Ren} {m : List ME} {m' : List MapEntry} (k : EntriesRep ρ m m') : ∀ {l : List ME} {l' : List MapEntry}, EntriesRep ρ l l' → EntriesRep ρ (l ++ m) (l' ++ m')
  | _, _, .nil => k
  | _, _, .cons a b => .cons a (EntriesRep.append k b)

def BlkRep (P : Program) (ρ : Ren) (w : World) (l : Loc) (g : Nat) : Blk → Prop
  | .gone => False
  | .cells e g0 data old ro => ∀ n, (Blk.cells e g0 data old ro).len g = some n → CellsRep P ρ w e data n ro l
  | .map es clock => g = 0 ∧ ∃ es' : Array MapEntry, w.heap[l.cb]? = some (.map es' clock) ∧ EntriesRep ρ es es'.toList
  | .iter none since seen last => g = 0 ∧ l.s = 0 ∧ w.heap[l.cb]? = some (.mapIter none since seen.toArray last)
  | .iter (some m) since seen last => g = 0 ∧ l.s = 0 ∧ ∃ l', ρ m 0 = some l' ∧ w.heap[l.cb]? = some (.mapIter (some l'.cb) since seen.toArray last)
  | .siter s pos => g = 0 ∧ l.s = 0 ∧ w.heap[l.cb]? = some (.stringIter s pos)
  | .dead => True

/-- The world 'w' represents the heap 'H' (but for blocks that 'ρ' does not know); what 'w0' held has not turned. -/
structure Rep (P : Program) (w0 : World) (ρ : Ren) (H : Heap) (w : World) : Prop where
  below : Below w0.heap.size w0 w
  dom : ∀ b g l, ρ b g = some l → b < H.size ∧ l.cb < w.heap.size
  inj : ∀ b g l b' g' l', ρ b g = some l → ρ b' g' = some l' → l.cb = l'.cb → b = b' ∨ ((H.get b).ro = true ∧ (H.get b').ro = true)
  al : ∀ b g l g' l', ρ b g = some l → ρ b g' = some l' → l.cb = l'.cb → l.s + l'.lo = l'.s + l.lo
  gen : ∀ b g l g0, ρ b g = some l → (∃ e d o r, H.get b = .cells e g0 d o r) → g ≤ g0
  blk : ∀ b g l, ρ b g = some l → BlkRep P ρ w l g (H.get b)
  own : ∀ b g l, ρ b g = some l → (H.get b).ro = false → w0.heap.size ≤ l.cb

/-- How renamings and heaps go on. -/
structure Ext (ρ : Ren) (H : Heap) (ρ' : Ren) (H' : Heap) : Prop where
  le : ρ.le ρ'
  size : H.size ≤ H'.size
  far : ∀ b, b < H.size → (∀ g, ρ b g = none) → (∀ g, ρ' b g = none) ∧ H'.get b = H.get b

theorem Ext.refl (ρ : Ren) (H : Heap) : Ext ρ H ρ H := ⟨Ren.le_refl ρ, Nat.le_refl _, fun _ _ h => ⟨h, rfl⟩⟩
theorem Ext.trans {ρ ρ' ρ'' : Ren} {H H' H'' : Heap} (h : Ext ρ H ρ' H') (k : Ext ρ' H' ρ'' H'') : Ext ρ H ρ'' H'' :=
  ⟨Ren.le_trans h.le k.le, Nat.le_trans h.size k.size, fun b hb hn =>
    let ⟨a, e⟩ := h.far b hb hn
    let ⟨a', e'⟩ := k.far b (Nat.lt_of_lt_of_le hb h.size) a
    ⟨a', e'.trans e⟩⟩
end Go.Ab
