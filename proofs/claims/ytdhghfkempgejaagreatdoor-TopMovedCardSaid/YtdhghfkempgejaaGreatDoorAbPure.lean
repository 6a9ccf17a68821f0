/- The abstract machine, 4: operations that look at no memory. -/
import Derived.Test.YtdhghfkempgejaaGreatDoorAbInt
import Derived.ChangeKeysEq
namespace Go.Ab

structure St where
  t : T AV
  h : Heap

def toAV0 : Value → AV
  | .bool b => .bool b
  | .int k n => .int k n
  | .string s => .str s
  | .pointer none => .ptr none
  | .slice none n c => .sl ⟨none, n, .known c⟩
  | .map none => .map none
  | .nilFunc => .nilFn
  | .nilIface => .nilIface
  | _ => .bad
def toAV : Value → AV
  | .agg cs => .agg (cs.toList.map toAV0)
  | .iface t v => .iface t (toAV0 v)
  | .tuple cs => .tuple (cs.toList.map toAV0)
  | v => toAV0 v
theorem toAV0_VR (ρ : Ren) (v : Value) : VR ρ (toAV0 v) v := by
  unfold toAV0; split
  · exact .bool _
  · exact .int _ _
  · exact .str _
  · exact .nilPtr
  · exact .nilSl _ _
  · exact .nilMap
  · exact .nilFn
  · exact .nilIface
  · exact .bad _
theorem toAV0_VRs (ρ : Ren) : ∀ l : List Value, VRs ρ (l.map toAV0) l
  | [] => .nil
  | v :: l => .cons (toAV0_VR ρ v) (toAV0_VRs ρ l)
theorem toAV_VR (ρ : Ren) (v : Value) : VR ρ (toAV v) v := by
  unfold toAV; split
  · exact .agg (toAV0_VRs ρ _)
  · exact .iface (toAV0_VR ρ _)
  · exact .tuple (toAV0_VRs ρ _)
  · exact toAV0_VR ρ v

/-- What a type's values are, as far as the machine asks. -/
inductive Ty where
  | int (k : IntKind)
  | bool | str | ptr | sl (e : TypeId) | map | fn | iface
  | agg (n : Nat)
  | tup (l : List TypeId)
  | other

def tyOf (P : Program) (t : TypeId) : Ty :=
  match P.underlying t with
  | some (.int k) => .int k
  | some .bool => .bool
  | some .string => .str
  | some (.pointer _) => .ptr
  | some (.slice e) => .sl e
  | some (.map _ _) => .map
  | some (.func _ _ _) => .fn
  | some (.interface _) => .iface
  | some (.struct _) => .agg (P.cellsOf t)
  | some (.array _ _) => .agg (P.cellsOf t)
  | some (.tuple l) => .tup l.toList
  | _ => .other

section
variable {R : Type}

noncomputable def asI (k : IntKind) : AV → Option Int
  | .int k' n => br (kEq k k') (some n) none
  | _ => none
def asB : AV → Option Bool
  | .bool b => some b
  | _ => none
def asStr : AV → Option ByteArray
  | .str s => some s
  | _ => none
def asPtr : AV → Option (Option AA)
  | .ptr a => some a
  | _ => none
def asSl : AV → Option Sl
  | .sl s => some s
  | _ => none
def asMap : AV → Option (Option Nat)
  | .map m => some m
  | _ => none
noncomputable def asAgg' (n : Nat) : AV → Option (List AV)
  | .agg l => br (Nat.beq l.length n) (some l) none
  | _ => none

/-- A value that comes from where its kind was not known, at its type. -/
noncomputable def castK (ty : Ty) (v : AV) (K : AV → Option R) : Option R :=
  match ty with
  | .int k => (asI k v).bind fun n => K (.int k n)
  | .bool => (asB v).bind fun b => K (.bool b)
  | .str => (asStr v).bind fun s => K (.str s)
  | .ptr => (asPtr v).bind fun a => K (.ptr a)
  | .sl _ => (asSl v).bind fun s => K (.sl s)
  | .map => (asMap v).bind fun m => K (.map m)
  | .agg n => (asAgg' n v).bind fun l => K (.agg l)
  | _ => K v

theorem asI_some {k : IntKind} {v : AV} {n : Int} (h : asI k v = some n) : v = .int k n := by
  unfold asI at h
  split at h
  · rename_i k' m
    cases e : kEq k k' with
    | true => rw [e] at h; have := kEq_eq e; subst this; simp at h; rw [h]
    | false => rw [e] at h; cases h
  · cases h
theorem asB_some {v : AV} {b : Bool} (h : asB v = some b) : v = .bool b := by
  unfold asB at h; split at h <;> simp_all
theorem asStr_some {v : AV} {b : ByteArray} (h : asStr v = some b) : v = .str b := by
  unfold asStr at h; split at h <;> simp_all
theorem asPtr_some {v : AV} {b : Option AA} (h : asPtr v = some b) : v = .ptr b := by
  unfold asPtr at h; split at h <;> simp_all
theorem asSl_some {v : AV} {b : Sl} (h : asSl v = some b) : v = .sl b := by
  unfold asSl at h; split at h <;> simp_all
theorem asMap_some {v : AV} {b : Option Nat} (h : asMap v = some b) : v = .map b := by
  unfold asMap at h; split at h <;> simp_all
theorem asAgg_some {n : Nat} {v : AV} {b : List AV} (h : asAgg' n v = some b) : v = .agg b ∧ b.length = n := by
  unfold asAgg' at h
  split at h
  · rename_i l
    cases e : Nat.beq l.length n with
    | true => rw [e] at h; simp at h; subst h; exact ⟨rfl, Nat.eq_of_beq_eq_true e⟩
    | false => rw [e] at h; cases h
  · cases h

theorem castK_some {ty : Ty} {v : AV} {K : AV → Option R} {r : R} (h : castK ty v K = some r) : K v = some r := by
  unfold castK at h
  split at h
  all_goals first
    | exact h
    | (rw [Option.bind_eq_some_iff] at h
       obtain ⟨x, hx, hk⟩ := h
       first
         | (rw [asI_some hx]; exact hk)
         | (rw [asB_some hx]; exact hk)
         | (rw [asStr_some hx]; exact hk)
         | (rw [asPtr_some hx]; exact hk)
         | (rw [asSl_some hx]; exact hk)
         | (rw [asMap_some hx]; exact hk)
         | (rw [(asAgg_some hx).1]; exact hk))

def asTup : AV → Option (List AV)
  | .tuple l => some l
  | _ => none
theorem asTup_some {v : AV} {l : List AV} (h : asTup v = some l) : v = .tuple l := by
  unfold asTup at h; split at h <;> simp_all
noncomputable def headL (l : List AV) : Option AV := List.rec none (fun a _ _ => some a) l
def tailL : List AV → List AV
  | [] => []
  | _ :: l => l
noncomputable def castList (P : Program) (ts : List TypeId) : List AV → (List AV → Option R) → Option R :=
  List.rec (fun vs K => match vs with
    | [] => K []
    | _ => none) (fun t _ ih vs K => (headL vs).bind fun a => castK (tyOf P t) a fun a => ih (tailL vs) fun out => K (a :: out)) ts
theorem castList_some {P : Program} : ∀ {ts : List TypeId} {vs : List AV} {K : List AV → Option R} {r : R}, castList P ts vs K = some r → K vs = some r
  | [], [], _, _, h => h
  | [], _ :: _, _, _, h => by cases h
  | t :: ts, [], _, _, h => by cases h
  | t :: ts, a :: vs, K, r, h => by
    have h' : castK (tyOf P t) a (fun a => castList P ts vs fun out => K (a :: out)) = some r := h
    exact castList_some (K := fun out => K (a :: out)) (castK_some (K := fun a => castList P ts vs fun out => K (a :: out)) h')
/-- What a call gives, at its type. -/
noncomputable def castC (P : Program) (t : TypeId) (v : AV) (K : AV → Option R) : Option R :=
  match tyOf P t with
  | .tup l => (asTup v).bind fun vs => castList P l vs fun out => K (.tuple out)
  | ty => castK ty v K
theorem castC_some {P : Program} {t : TypeId} {v : AV} {K : AV → Option R} {r : R} (h : castC P t v K = some r) : K v = some r := by
  unfold castC at h
  split at h
  · rw [Option.bind_eq_some_iff] at h
    obtain ⟨vs, h1, h2⟩ := h
    rw [asTup_some h1]
    exact castList_some (K := fun out => K (.tuple out)) h2
  · exact castK_some h

/-- The value that an operation gives, whatever memory holds. -/
def PureSem (P : Program) (o : Oper) (E : Operand → AV) (v : AV) : Prop :=
  ∀ (ρ : Ren) (e : Operand → Value) (w : World), (∀ x, VR ρ (E x) (e x)) → ∃ v', VR ρ v v' ∧ (execOp e o).run P w = .ok (.value v') w

/-! ### Operators -/
/-- A number by name, computed first. -/
noncomputable def bindI (n : Int) (K : Int → Option R) : Option R :=
  Int.rec (motive := fun _ => Option R) (fun m => Nat.rec (motive := fun _ => Option R) (K (Int.ofNat 0)) (fun p _ => K (Int.ofNat (Nat.succ p))) m)
    (fun m => Nat.rec (motive := fun _ => Option R) (K (Int.negSucc 0)) (fun p _ => K (Int.negSucc (Nat.succ p))) m) n
theorem bindI_eq (n : Int) (K : Int → Option R) : bindI n K = K n := by
  cases n with
  | ofNat m => cases m <;> rfl
  | negSucc m => cases m <;> rfl
noncomputable def intBinK (op : BinOp) (k : IntKind) (a b : Int) (K : AV → Option R) : Option R :=
  match op with
  | .add => bindI (wr k (a + b)) fun n => K (.int k n)
  | .sub => bindI (wr k (a - b)) fun n => K (.int k n)
  | .mul => bindI (wr k (a * b)) fun n => K (.int k n)
  | .quo => br (eqI b 0) none (bindI (wr k (a.tdiv b)) fun n => K (.int k n))
  | .rem => br (eqI b 0) none (bindI (a.tmod b) fun n => K (.int k n))
  | .and => bindI (andI k a b) fun n => K (.int k n)
  | .or => bindI (orI k a b) fun n => K (.int k n)
  | .xor => bindI (xorI k a b) fun n => K (.int k n)
  | .andNot => bindI (andNotI k a b) fun n => K (.int k n)
  | .eql => K (.bool (eqI a b))
  | .neq => K (.bool (notB (eqI a b)))
  | .lss => K (.bool (ltI a b))
  | .leq => K (.bool (leI a b))
  | .gtr => K (.bool (ltI b a))
  | .geq => K (.bool (leI b a))
  | _ => none
noncomputable def shiftK (op : BinOp) (k : IntKind) (a b : Int) (K : AV → Option R) : Option R :=
  match op with
  | .shl => br (ltI b 0) none (bindI (shlI k a b) fun n => K (.int k n))
  | .shr => br (ltI b 0) none (bindI (shrI k a b) fun n => K (.int k n))
  | _ => none
def strBin (op : BinOp) (a b : ByteArray) : Option AV :=
  match op with
  | .add => if ((a.size + b.size : Nat) : Int) > IntKind.i64.max then none else some (.str (a ++ b))
  | .eql => some (.bool (a.toList == b.toList))
  | .neq => some (.bool !(a.toList == b.toList))
  | .lss => some (.bool (Op.bytesLess a.toList b.toList))
  | .leq => some (.bool (Op.bytesLess a.toList b.toList || a.toList == b.toList))
  | .gtr => some (.bool !(Op.bytesLess a.toList b.toList || a.toList == b.toList))
  | .geq => some (.bool !(Op.bytesLess a.toList b.toList))
  | _ => none
noncomputable def eqB (a b : Bool) : Bool := br a b (notB b)
theorem eqB_eq (a b : Bool) : eqB a b = (a == b) := by cases a <;> cases b <;> rfl
noncomputable def eqK (op : BinOp) (b : Bool) (K : AV → Option R) : Option R :=
  match op with
  | .eql => K (.bool b)
  | .neq => K (.bool (notB b))
  | _ => none
/-- Comparisons other than those of numbers and strings. -/
noncomputable def cmpK (ty : Ty) (op : BinOp) (x y : AV) (K : AV → Option R) : Option R :=
  match ty with
  | .bool => (asB x).bind fun a => (asB y).bind fun b => eqK op (eqB a b) K
  | .sl _ => match x, y with
    | .sl s, .sl ⟨none, _, _⟩ => eqK op s.a.isNone K
    | .sl ⟨none, _, _⟩, .sl s => eqK op s.a.isNone K
    | _, _ => none
  | .ptr => match x, y with
    | .ptr p, .ptr none => eqK op p.isNone K
    | .ptr none, .ptr p => eqK op p.isNone K
    | _, _ => none
  | .map => match x, y with
    | .map p, .map none => eqK op p.isNone K
    | .map none, .map p => eqK op p.isNone K
    | _, _ => none
  | .fn => match x, y with
    | .fn _ _ _, .nilFn => eqK op false K
    | .nilFn, .nilFn => eqK op true K
    | .nilFn, .fn _ _ _ => eqK op false K
    | _, _ => none
  | .iface => match x, y with
    | .iface _ _, .nilIface => eqK op false K
    | .nilIface, .iface _ _ => eqK op false K
    | _, _ => none
  | _ => none
theorem guard_plain {op : BinOp} {t : TypeId} {x y : Operand} {a b : Value} (P : Program) (w : World) (h : (∀ c d, ¬(a = .agg c ∧ b = .agg d)) ∧ ¬(a = .nilIface ∧ b = .nilIface)) :
    (eqGuard op t x y a b).run P w = .ok () w := by
  cases op
  case eql | neq =>
    unfold eqGuard
    simp only [Bool.not_true, Bool.false_eq_true, if_false]
    split
    · exact absurd ⟨rfl, rfl⟩ h.2
    · exact absurd ⟨rfl, rfl⟩ (h.1 _ _)
    · rfl
  all_goals rfl

theorem intBin_sound {op : BinOp} {k : IntKind} {a b : Int} {K : AV → Option R} {r : R} (h : intBinK op k a b K = some r) (t : TypeId) :
    ∃ v, K v = some r ∧ ∃ v', (∀ ρ, VR ρ v v') ∧ ∀ P w, (binOp op t (.int k a) (.int k b)).run P w = .ok v' w := by
  unfold intBinK at h
  simp only [bindI_eq] at h
  split at h
  · refine ⟨_, h, _, fun ρ => .int _ _, fun P w => ?_⟩; rw [wr_eq]; simp [binOp, Op.intArith]
  · refine ⟨_, h, _, fun ρ => .int _ _, fun P w => ?_⟩; rw [wr_eq]; simp [binOp, Op.intArith]
  · refine ⟨_, h, _, fun ρ => .int _ _, fun P w => ?_⟩; rw [wr_eq]; simp [binOp, Op.intArith]
  · cases e : eqI b 0 with
    | true => rw [e] at h; cases h
    | false =>
      rw [e] at h
      rw [eqI_eq] at e
      have hb : ¬ b = 0 := by simpa using e
      refine ⟨_, h, _, fun ρ => .int _ _, fun P w => ?_⟩; rw [wr_eq]; simp [binOp, Op.intDiv, hb]
  · cases e : eqI b 0 with
    | true => rw [e] at h; cases h
    | false =>
      rw [e] at h
      rw [eqI_eq] at e
      have hb : ¬ b = 0 := by simpa using e
      refine ⟨_, h, _, fun ρ => .int _ _, fun P w => ?_⟩; simp [binOp, Op.intDiv, hb]
  · refine ⟨_, h, _, fun ρ => .int _ _, fun P w => ?_⟩; rw [andI_eq]; simp [binOp, Op.intBits, bitsOf]
  · refine ⟨_, h, _, fun ρ => .int _ _, fun P w => ?_⟩; rw [orI_eq]; simp [binOp, Op.intBits, bitsOf]
  · refine ⟨_, h, _, fun ρ => .int _ _, fun P w => ?_⟩; rw [xorI_eq]; simp [binOp, Op.intBits, bitsOf]
  · refine ⟨_, h, _, fun ρ => .int _ _, fun P w => ?_⟩; rw [andNotI_eq]; simp [binOp, Op.intBits, bitsOf]
  · refine ⟨_, h, _, fun ρ => .bool _, fun P w => ?_⟩; rw [eqI_eq]; simp [binOp, Op.intCmp]
  · refine ⟨_, h, _, fun ρ => .bool _, fun P w => ?_⟩; rw [notB_eq, eqI_eq]; simp [binOp, Op.intCmp]; rfl
  · refine ⟨_, h, _, fun ρ => .bool _, fun P w => ?_⟩; rw [ltI_eq]; simp [binOp, Op.intCmp]
  · refine ⟨_, h, _, fun ρ => .bool _, fun P w => ?_⟩; rw [leI_eq]; simp [binOp, Op.intCmp]
  · refine ⟨_, h, _, fun ρ => .bool _, fun P w => ?_⟩; rw [ltI_eq]; simp [binOp, Op.intCmp]
  · refine ⟨_, h, _, fun ρ => .bool _, fun P w => ?_⟩; rw [leI_eq]; simp [binOp, Op.intCmp]
  · cases h

theorem shift_sound {op : BinOp} {k k' : IntKind} {a b : Int} {K : AV → Option R} {r : R} (h : shiftK op k a b K = some r) (t : TypeId) :
    ∃ v, K v = some r ∧ ∃ v', (∀ ρ, VR ρ v v') ∧ ∀ P w, (binOp op t (.int k a) (.int k' b)).run P w = .ok v' w := by
  unfold shiftK at h
  simp only [bindI_eq] at h
  split at h
  · cases e : ltI b 0 with
    | true => rw [e] at h; cases h
    | false =>
      rw [e] at h; rw [ltI_eq] at e
      have hb : ¬ b < 0 := by simpa using e
      refine ⟨_, h, _, fun ρ => .int _ _, fun P w => ?_⟩; rw [shlI_eq k a b (by omega)]; simp [binOp, Op.shift, hb]
  · cases e : ltI b 0 with
    | true => rw [e] at h; cases h
    | false =>
      rw [e] at h; rw [ltI_eq] at e
      have hb : ¬ b < 0 := by simpa using e
      refine ⟨_, h, _, fun ρ => .int _ _, fun P w => ?_⟩; rw [shrI_eq k a b (by omega)]; simp [binOp, Op.shift, hb]
  · cases h

theorem strBin_sound {op : BinOp} {a b : ByteArray} {v : AV} (h : strBin op a b = some v) (t : TypeId) :
    ∃ v', (∀ ρ, VR ρ v v') ∧ ∀ P w, (binOp op t (.string a) (.string b)).run P w = .ok v' w := by
  unfold strBin at h
  split at h
  · split at h
    · cases h
    · rename_i hs; cases h; refine ⟨_, fun ρ => .str _, fun P w => ?_⟩
      simp only [binOp, Op.stringOp, hs, if_false]; rfl
  all_goals first
    | (cases h; done)
    | (cases h; refine ⟨_, fun ρ => .bool _, fun P w => ?_⟩; simp [binOp, Op.stringOp])
end
end Go.Ab
