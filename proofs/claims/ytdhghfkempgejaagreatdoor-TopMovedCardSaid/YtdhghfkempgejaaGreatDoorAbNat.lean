/- The abstract machine, 21b: what goes on after a step may be put behind it. -/
import Derived.Test.YtdhghfkempgejaaGreatDoorAbFun
namespace Go.Ab
section
variable {R S : Type} {P : Program}

theorem br_bind (b : Bool) (x y : Option R) (f : R → Option S) : (br b x y).bind f = br b (x.bind f) (y.bind f) := by cases b <;> rfl
theorem bindI_bind (n : Int) (K : Int → Option R) (f : R → Option S) : (bindI n K).bind f = bindI n fun n => (K n).bind f := by rw [bindI_eq, bindI_eq]
theorem none_bind (f : R → Option S) : (none : Option R).bind f = none := rfl

theorem castK_nat (ty : Ty) (v : AV) (K : AV → Option R) (f : R → Option S) : (castK ty v K).bind f = castK ty v fun v => (K v).bind f := by
  unfold castK; split <;> simp only [Option.bind_assoc]
theorem castList_nat (ts : List TypeId) : ∀ (vs : List AV) (K : List AV → Option R) (f : R → Option S), (castList P ts vs K).bind f = castList P ts vs fun v => (K v).bind f := by
  induction ts with
  | nil => intro vs K f; cases vs <;> rfl
  | cons t ts ih =>
    intro vs K f
    show ((headL vs).bind fun a => castK (tyOf P t) a fun a => castList P ts (tailL vs) fun out => K (a :: out)).bind f = (headL vs).bind fun a => castK (tyOf P t) a fun a => castList P ts (tailL vs) fun out => (K (a :: out)).bind f
    simp only [Option.bind_assoc, castK_nat, ih]
theorem castC_nat (t : TypeId) (v : AV) (K : AV → Option R) (f : R → Option S) : (castC P t v K).bind f = castC P t v fun v => (K v).bind f := by
  unfold castC; split <;> simp only [Option.bind_assoc, castK_nat, castList_nat]
theorem partK_nat (t : TypeId) (l : List AV) (off : Nat) (K : AV → Option R) (f : R → Option S) : (partK P t l off K).bind f = partK P t l off fun v => (K v).bind f := by
  unfold partK; split <;> simp only [Option.bind_assoc, castK_nat]
theorem pickK_nat (c a b : AV) (K : AV → Option R) (f : R → Option S) : (pickK c a b K).bind f = pickK c a b fun v => (K v).bind f := by
  unfold pickK; repeat' split
  all_goals simp only [br_bind, none_bind]
theorem nilK_nat (x : AV) (K : AV → Option R) (f : R → Option S) : (nilK x K).bind f = nilK x fun v => (K v).bind f := by
  unfold nilK; repeat' split
  all_goals simp only [Option.bind_assoc, none_bind]
theorem eqK_nat (op : BinOp) (b : Bool) (K : AV → Option R) (f : R → Option S) : (eqK op b K).bind f = eqK op b fun v => (K v).bind f := by
  unfold eqK; split <;> rfl
theorem intBinK_nat (op : BinOp) (k : IntKind) (a b : Int) (K : AV → Option R) (f : R → Option S) : (intBinK op k a b K).bind f = intBinK op k a b fun v => (K v).bind f := by
  unfold intBinK; split <;> simp only [br_bind, bindI_bind, none_bind]
theorem shiftK_nat (op : BinOp) (k : IntKind) (a b : Int) (K : AV → Option R) (f : R → Option S) : (shiftK op k a b K).bind f = shiftK op k a b fun v => (K v).bind f := by
  unfold shiftK; split <;> simp only [br_bind, bindI_bind, none_bind]
theorem cmpK_nat (ty : Ty) (op : BinOp) (x y : AV) (K : AV → Option R) (f : R → Option S) : (cmpK ty op x y K).bind f = cmpK ty op x y fun v => (K v).bind f := by
  unfold cmpK; repeat' split
  all_goals simp only [Option.bind_assoc, none_bind, eqK_nat]
theorem aggK_nat (op : BinOp) (t : TypeId) (l m : List AV) (K : AV → Option R) (f : R → Option S) : (aggK P op t l m K).bind f = aggK P op t l m fun v => (K v).bind f := by
  unfold aggK; simp only [br_bind, Option.bind_assoc, none_bind, eqK_nat]
theorem binK_nat (op : BinOp) (t : TypeId) (x y : AV) (K : AV → Option R) (f : R → Option S) : (binK P op t x y K).bind f = binK P op t x y fun v => (K v).bind f := by
  unfold binK; repeat' split
  all_goals simp only [br_bind, Option.bind_assoc, none_bind, intBinK_nat, shiftK_nat, cmpK_nat, aggK_nat]
theorem unK_nat (op : UnOp) (x : AV) (K : AV → Option R) (f : R → Option S) : (unK op x K).bind f = unK op x fun v => (K v).bind f := by
  unfold unK; repeat' split
  all_goals simp only [bindI_bind, none_bind]
theorem convK_nat (d s : TypeId) (x : AV) (K : AV → Option R) (f : R → Option S) : (convK P d s x K).bind f = convK P d s x fun v => (K v).bind f := by
  unfold convK; repeat' split
  all_goals simp only [bindI_bind, none_bind]
theorem mkIfaceK_nat (t : TypeId) (x : AV) (K : AV → Option R) (f : R → Option S) : (mkIfaceK P t x K).bind f = mkIfaceK P t x fun v => (K v).bind f := by
  unfold mkIfaceK; repeat' split
  all_goals first | rfl | simp only [none_bind]
theorem sliceK_nat (t : TypeId) (x : AV) (lo hi mx : Option AV) (K : AV → Option R) (f : R → Option S) : (sliceK P t x lo hi mx K).bind f = sliceK P t x lo hi mx fun v => (K v).bind f := by
  unfold sliceK; repeat' split
  all_goals simp only [Option.bind_assoc, none_bind]
theorem fieldAddrK_nat (s : TypeId) (i : Nat) (x : AV) (K : AV → Option R) (f : R → Option S) : (fieldAddrK P s i x K).bind f = fieldAddrK P s i x fun v => (K v).bind f := by
  unfold fieldAddrK; repeat' split
  all_goals simp only [Option.bind_assoc, none_bind]
theorem fieldK_nat (s : TypeId) (i : Nat) (x : AV) (K : AV → Option R) (f : R → Option S) : (fieldK P s i x K).bind f = fieldK P s i x fun v => (K v).bind f := by
  unfold fieldK; repeat' split
  all_goals simp only [partK_nat, none_bind]
theorem idxAddrK_nat (t : TypeId) (x i : AV) (K : AV → Option R) (f : R → Option S) : (idxAddrK P t x i K).bind f = idxAddrK P t x i fun v => (K v).bind f := by
  unfold idxAddrK; repeat' split
  all_goals simp only [Option.bind_assoc, none_bind]
  all_goals (congr 1; funext a; split <;> simp only [Option.bind_assoc, none_bind])
theorem indexK_nat (t : TypeId) (x i : AV) (K : AV → Option R) (f : R → Option S) : (indexK P t x i K).bind f = indexK P t x i fun v => (K v).bind f := by
  unfold indexK; repeat' split
  all_goals simp only [Option.bind_assoc, none_bind, partK_nat]
theorem extractK_nat (ty : TypeId) (x : AV) (i : Nat) (K : AV → Option R) (f : R → Option S) : (extractK P ty x i K).bind f = extractK P ty x i fun v => (K v).bind f := by
  unfold extractK; repeat' split
  all_goals simp only [Option.bind_assoc, none_bind, castK_nat]
theorem loadK_nat (H : Heap) (t : TypeId) (x : AV) (K : AV → Option R) (f : R → Option S) : (loadK P H t x K).bind f = loadK P H t x fun v => (K v).bind f := by
  unfold loadK; repeat' split
  all_goals simp only [Option.bind_assoc, none_bind, castK_nat]
  all_goals (congr 1; funext a; split <;> simp only [Option.bind_assoc, none_bind, castK_nat])
theorem lookupK_nat (H : Heap) (t : TypeId) (x k : AV) (ok : Bool) (K : AV → Option R) (f : R → Option S) : (lookupK P H t x k ok K).bind f = lookupK P H t x k ok fun v => (K v).bind f := by
  unfold lookupK; repeat' split
  all_goals simp only [Option.bind_assoc, none_bind, br_bind, castK_nat]
theorem lenMapK_nat (H : Heap) (t : TypeId) (x : AV) (K : AV → Option R) (f : R → Option S) : (lenMapK P H t x K).bind f = lenMapK P H t x fun v => (K v).bind f := by
  unfold lenMapK; repeat' split
  all_goals simp only [Option.bind_assoc, none_bind]
theorem lenK_nat (t : TypeId) (x : AV) (K : AV → Option R) (f : R → Option S) : (lenK P t x K).bind f = lenK P t x fun v => (K v).bind f := by
  unfold lenK; repeat' split
  all_goals first | rfl | simp only [none_bind]
theorem capK_nat (t : TypeId) (x : AV) (K : AV → Option R) (f : R → Option S) : (capK P t x K).bind f = capK P t x fun v => (K v).bind f := by
  unfold capK; repeat' split
  all_goals first | rfl | simp only [none_bind]
theorem mmK_nat (mx : Bool) (x y : AV) (K : AV → Option R) (f : R → Option S) : (mmK mx x y K).bind f = mmK mx x y fun v => (K v).bind f := by
  unfold mmK; repeat' split
  all_goals simp only [bindI_bind, none_bind]
theorem mmsK_nat (mx : Bool) : ∀ (l : List AV) (x : AV) (K : AV → Option R) (f : R → Option S), (mmsK mx x l K).bind f = mmsK mx x l fun v => (K v).bind f
  | [], x, K, f => by unfold mmsK; rfl
  | y :: l, x, K, f => by
    unfold mmsK
    rw [mmK_nat]
    congr 1; funext v
    exact mmsK_nat mx l v K f
theorem quietK_nat (b : Builtin) (ts : List TypeId) (args : List AV) (K : AV → Option R) (f : R → Option S) : (quietK P b ts args K).bind f = quietK P b ts args fun v => (K v).bind f := by
  unfold quietK; repeat' split
  all_goals simp only [lenK_nat, capK_nat, mmsK_nat, none_bind]
theorem storeK_nat (t : TypeId) (x v : AV) (H : Heap) (K : AV → Heap → Option R) (f : R → Option S) : (storeK P t x v H K).bind f = storeK P t x v H fun v H => (K v H).bind f := by
  unfold storeK; repeat' split
  all_goals simp only [Option.bind_assoc, none_bind, br_bind]
theorem mapUpdateK_nat (t : TypeId) (m k v : AV) (H : Heap) (K : AV → Heap → Option R) (f : R → Option S) : (mapUpdateK P t m k v H K).bind f = mapUpdateK P t m k v H fun v H => (K v H).bind f := by
  unfold mapUpdateK; repeat' split
  all_goals simp only [Option.bind_assoc, none_bind, br_bind]
theorem allocK_nat (e : TypeId) (H : Heap) (K : AV → Heap → Option R) (f : R → Option S) : (allocK P e H K).bind f = allocK P e H fun v H => (K v H).bind f := by
  unfold allocK newK; split <;> rfl
theorem boxK_nat (e : TypeId) (x : AV) (H : Heap) (K : AV → Heap → Option R) (f : R → Option S) : (boxK e x H K).bind f = boxK e x H fun v H => (K v H).bind f := by
  unfold boxK newK; simp only [br_bind, none_bind]
theorem buildSliceK_nat (t : TypeId) (n : Nat) (parts : List (Nat × AV)) (H : Heap) (K : AV → Heap → Option R) (f : R → Option S) : (buildSliceK P t n parts H K).bind f = buildSliceK P t n parts H fun v H => (K v H).bind f := by
  unfold buildSliceK; repeat' split
  all_goals simp only [Option.bind_assoc, none_bind, br_bind]
theorem makeMapK_nat (x : Option AV) (H : Heap) (K : AV → Heap → Option R) (f : R → Option S) : (makeMapK x H K).bind f = makeMapK x H fun v H => (K v H).bind f := by
  unfold makeMapK; split <;> rfl
theorem makeSliceK_nat (t : TypeId) (l c : AV) (H : Heap) (K : AV → Heap → Option R) (f : R → Option S) : (makeSliceK P t l c H K).bind f = makeSliceK P t l c H fun v H => (K v H).bind f := by
  unfold makeSliceK; repeat' split
  all_goals simp only [Option.bind_assoc, none_bind, br_bind]
theorem copyK_nat (ts : List TypeId) (args : List AV) (H : Heap) (K : AV → Heap → Option R) (f : R → Option S) : (copyK P ts args H K).bind f = copyK P ts args H fun v H => (K v H).bind f := by
  unfold copyK; repeat' split
  all_goals simp only [Option.bind_assoc, none_bind]
theorem clearK_nat (ts : List TypeId) (args : List AV) (H : Heap) (K : AV → Heap → Option R) (f : R → Option S) : (clearK P ts args H K).bind f = clearK P ts args H fun v H => (K v H).bind f := by
  unfold clearK; repeat' split
  all_goals simp only [Option.bind_assoc, none_bind]
theorem rangeK_nat (t : TypeId) (x : AV) (H : Heap) (K : AV → Heap → Option R) (f : R → Option S) : (rangeK P t x H K).bind f = rangeK P t x H fun v H => (K v H).bind f := by
  unfold rangeK; repeat' split
  all_goals simp only [Option.bind_assoc, none_bind, br_bind]
theorem nextSK_nat (x : AV) (H : Heap) (K : AV → Heap → Option R) (f : R → Option S) : (nextSK x H K).bind f = nextSK x H fun v H => (K v H).bind f := by
  unfold nextSK
  split
  · simp only [Option.bind_assoc, none_bind, br_bind]
    congr 1; funext a; congr 2
    split
    · simp only [Option.bind_assoc, none_bind, br_bind]
    · rfl
  · rfl
theorem entryK_nat (x : AV) (H : Heap) (K : AV → Option R) (f : R → Option S) : (entryK x H K).bind f = entryK x H fun v => (K v).bind f := by
  unfold entryK
  split
  · simp only [Option.bind_assoc, none_bind, br_bind]
    congr 1; funext a; congr 2
    split
    · simp only [Option.bind_assoc, none_bind, br_bind]
    · rfl
  · rfl
theorem appendK_nat (ts : List TypeId) (args : List AV) (H : Heap) (K : AV → Heap → Option R) (f : R → Option S) : (appendK P ts args H K).bind f = appendK P ts args H fun v H => (K v H).bind f := by
  unfold appendK; repeat' split
  all_goals simp only [Option.bind_assoc, none_bind, br_bind]

/-- Calls go on with what the function gives. -/
theorem callK_nat (F : FTab) (g : AV) (args : List AV) (ty : TypeId) (H : Heap) (K : AV → Heap → Option R) (f : R → Option S) : (callK P F.oracle g args ty H K).bind f = callK P F.oracle g args ty H fun v H => (K v H).bind f := by
  unfold callK; repeat' split
  all_goals simp only [FTab.oracle, Option.bind_assoc, none_bind, castC_nat]

theorem stepK_nat (F : FTab) (op : Op) (ty : TypeId) (E : Operand → AV) (H : Heap) (K : AV → Heap → Option R) (f : R → Option S) : (stepK P F.oracle op ty E H K).bind f = stepK P F.oracle op ty E H fun v H => (K v H).bind f := by
  unfold stepK; repeat' split
  all_goals first
    | rfl
    | simp only [Option.bind_assoc, none_bind, br_bind, castK_nat, pickK_nat, nilK_nat, binK_nat, unK_nat, convK_nat, mkIfaceK_nat, sliceK_nat, fieldAddrK_nat, fieldK_nat, idxAddrK_nat, indexK_nat, extractK_nat, loadK_nat, lookupK_nat, lenMapK_nat, quietK_nat, storeK_nat, mapUpdateK_nat, allocK_nat, boxK_nat, buildSliceK_nat, makeMapK_nat, makeSliceK_nat, appendK_nat, copyK_nat, clearK_nat, rangeK_nat, nextSK_nat, entryK_nat, callK_nat]
end
end Go.Ab
