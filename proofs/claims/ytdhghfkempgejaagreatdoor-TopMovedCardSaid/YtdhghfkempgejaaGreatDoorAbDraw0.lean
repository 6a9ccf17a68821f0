/- The abstract machine, 21: what drawn regions need of single operations. -/
import Derived.Test.YtdhghfkempgejaaGreatDoorAbFun
namespace Go.Ab
open Go.RowKit

/-- What an operation is to the order in which operations go. -/
inductive Cls where
  | pure | read | new | eff

def clsOf (P : Program) : Op → Cls
  | .move _ | .assign _ | .pick _ _ _ | .nilCheck _ | .binOp _ _ _ _ _ | .unOp _ _ _ | .convert _ _ _ | .makeInterface _ _ | .makeFunc _ _ _ | .slice _ _ _ _ _
  | .fieldAddr _ _ _ | .field _ _ _ | .indexAddr _ _ _ | .index _ _ _ | .extract _ _ | .build _ _ => .pure
  | .load _ _ | .lookup _ _ _ _ => .read
  | .alloc _ | .box _ _ | .buildSlice _ _ _ | .makeMap _ _ | .makeSlice _ _ _ => .new
  | .call c => match c.callee with
    | .builtin .append => .eff
    | .builtin .copy => .eff
    | .builtin .clear => .eff
    | .builtin .len => bif isMapTy P c.argTypes.toList then .read else .pure
    | .builtin _ => .pure
    | _ => .eff
  | _ => .eff
def Cls.isPure : Cls → Bool
  | .pure => true
  | _ => false
def Cls.isRead : Cls → Bool
  | .read => true
  | _ => false
def Cls.isNew : Cls → Bool
  | .new => true
  | _ => false
def Cls.isEff : Cls → Bool
  | .eff => true
  | _ => false

section
variable {R : Type} {P : Program} {gl : Gl} {E : Operand → AV} {ty : TypeId} {K : AV → Heap → Option R} {r : R} {w0 : World} {ρ ρ' : Ren} {H H' : Heap} {w w' : World}

theorem step_pure {C : Oracle R} {op : Op} (hc : clsOf P op = .pure) (h : stepK P C op ty E H K = some r) : ∃ v, K v H = some r ∧ PureOp P op ty E v := by
  cases op <;> simp only [clsOf, reduceCtorEq] at hc <;> simp only [stepK] at h
  case move => exact move_sound (P := P) (ty := ty) (K := fun v => K v H) h
  case assign => exact assign_sound (P := P) (ty := ty) (K := fun v => K v H) h
  case pick => exact pick_sound (P := P) (ty := ty) h
  case nilCheck => exact nil_sound (P := P) (ty := ty) h
  case binOp => exact bin_op_sound (ty := ty) h
  case unOp => exact un_sound (P := P) (ty := ty) h
  case convert => exact conv_sound (ty := ty) h
  case makeInterface => exact mkIface_sound (ty := ty) h
  case makeFunc => exact mkFunc_sound (P := P) (ty := ty) (K := fun v => K v H) h
  case slice => exact slice_sound (ty := ty) h
  case fieldAddr => exact fieldAddr_sound (ty := ty) h
  case field => exact field_sound (ty := ty) h
  case indexAddr => exact idxAddr_sound (ty := ty) h
  case index => exact index_sound (ty := ty) h
  case extract => exact extract_sound (P := P) (ty := ty) h
  case build => exact buildOp_sound (ty := ty) (K := fun v => K v H) h
  case call c =>
    obtain ⟨callee, args, ts⟩ := c
    simp only at hc h
    cases callee with
    | value f => cases hc
    | invoke a b => cases hc
    | builtin b =>
      cases b <;> simp only at hc h <;> try (cases hc; done)
      case len =>
        cases hm : isMapTy P ts.toList with
        | true => rw [hm] at hc; cases hc
        | false =>
          rw [hm, br_false] at h
          exact quiet_sound (ty := ty) h
      all_goals exact quiet_sound (ty := ty) h

theorem PureOp.read {op : Op} {v : AV} (h : PureOp P op ty E v) (H : Heap) : ReadOp P H op ty E v := fun _ ρ e w _ hE =>
  let ⟨v', hv, hr⟩ := h ρ e w hE
  ⟨v', hv, fun o ho ht => hr o ho ht⟩

theorem step_read {C : Oracle R} {op : Op} (hc : clsOf P op = .read) (h : stepK P C op ty E H K = some r) : ∃ v, K v H = some r ∧ ReadOp P H op ty E v := by
  cases op <;> simp only [clsOf, reduceCtorEq] at hc <;> simp only [stepK] at h
  case load => exact load_sound (ty := ty) h
  case lookup => exact lookup_sound (ty := ty) h
  case call c =>
    obtain ⟨callee, args, ts⟩ := c
    simp only at hc h
    cases callee with
    | value f => cases hc
    | invoke a b => cases hc
    | builtin b =>
      cases b <;> simp only at hc h <;> try (cases hc; done)
      case len =>
        cases hm : isMapTy P ts.toList with
        | true =>
          rw [hm, br_true] at h
          split at h
          · rename_i x t hx ht
            obtain ⟨args⟩ := args
            obtain ⟨ts⟩ := ts
            simp only at hx ht
            subst hx; subst ht
            exact lenMap_sound (ty := ty) h
          · cases h
        | false => rw [hm] at hc; cases hc

theorem step_new {C : Oracle R} {op : Op} (hc : clsOf P op = .new) (h : stepK P C op ty E H K = some r) : ∃ v x, K v (H.push x) = some r ∧ NewOp P op ty E H.size v x := by
  cases op <;> simp only [clsOf, reduceCtorEq] at hc <;> simp only [stepK] at h
  case alloc => exact alloc_new (ty := ty) (E := E) h
  case box => exact box_new (P := P) (ty := ty) h
  case buildSlice => exact buildSlice_new (ty := ty) h
  case makeMap => exact makeMap_new (P := P) (ty := ty) h
  case makeSlice => exact makeSlice_new (ty := ty) h
  case call c =>
    obtain ⟨callee, args, ts⟩ := c
    simp only at hc
    cases callee with
    | value f => cases hc
    | invoke a b => cases hc
    | builtin b =>
      cases b <;> simp only at hc <;> try (cases hc; done)
      cases hm : isMapTy P ts.toList <;> rw [hm] at hc <;> cases hc

/-! Reads stay, if a block comes -/
theorem at_push {a : AA} {v : AV} (h : H.at a = some v) (x : Blk) : (H.push x).at a = some v := by
  have hg : H.get a.b ≠ .gone := fun e => by unfold Heap.at at h; rw [e] at h; cases h
  unfold Heap.at at *
  rw [Heap.get_push_keep H x hg]; exact h
theorem row_push {a : AA} {k : Nat} {l : List AV} (h : H.row a k = some l) (x : Blk) : (H.push x).row a k = some l := by
  have hg : H.get a.b ≠ .gone := fun e => by unfold Heap.row at h; rw [e] at h; cases h
  unfold Heap.row at *
  rw [Heap.get_push_keep H x hg]; exact h
theorem mapAt_push {b : Nat} {p : List ME × Nat} (h : H.mapAt b = some p) (x : Blk) : (H.push x).mapAt b = some p := by
  have hg : H.get b ≠ .gone := fun e => by unfold Heap.mapAt at h; rw [e] at h; cases h
  unfold Heap.mapAt at *
  rw [Heap.get_push_keep H x hg]; exact h
theorem mapFind_push {m : Option Nat} {k : AV} {p : Option (Nat × AV)} (h : mapFind H m k = some p) (x : Blk) : mapFind (H.push x) m k = some p := by
  cases m with
  | none => exact h
  | some b =>
    obtain ⟨q, h1, h2⟩ := bind_some (show ((H.mapAt b).bind fun p => findK k p.1 0) = some p from h)
    show (((H.push x).mapAt b).bind fun p => findK k p.1 0) = some p
    rw [mapAt_push h1 x]; exact h2
theorem castK_any {ty : Ty} {v : AV} {K : AV → Option R} {r : R} (h : castK ty v K = some r) {R' : Type} (K' : AV → Option R') : castK ty v K' = K' v := by
  unfold castK at *
  split at h
  all_goals first
    | rfl
    | (obtain ⟨y, hy, _⟩ := bind_some h
       simp only [hy, Option.bind_some]
       first
         | rw [asI_some hy]
         | rw [asB_some hy]
         | rw [asStr_some hy]
         | rw [asPtr_some hy]
         | rw [asSl_some hy]
         | rw [asMap_some hy]
         | rw [(asAgg_some hy).1])
theorem load_push {t : TypeId} {a : AV} {K : AV → Option R} {r : R} (h : loadK P H t a K = some r) (x : Blk) : ∃ v, K v = some r ∧ ∀ (R' : Type) (K' : AV → Option R'), loadK P (H.push x) t a K' = K' v := by
  unfold loadK at *
  split at h
  · rename_i oa
    obtain ⟨ad, hoa, h2⟩ := bind_some h
    subst hoa
    simp only [Option.bind_some]
    split at h2
    · rename_i n hn
      obtain ⟨l, hl, hK⟩ := bind_some h2
      exact ⟨_, hK, fun R' K' => by rw [row_push hl x]; rfl⟩
    · cases h2
    · rename_i ty' q1 q2
      obtain ⟨v, hv, hK⟩ := bind_some h2
      exact ⟨v, castK_some hK, fun R' K' => by rw [at_push hv x]; exact castK_any hK K'⟩
  · cases h
theorem lookup_push {t : TypeId} {a k : AV} {ok : Bool} {K : AV → Option R} {r : R} (h : lookupK P H t a k ok K = some r) (x : Blk) : ∃ v, K v = some r ∧ ∀ (R' : Type) (K' : AV → Option R'), lookupK P (H.push x) t a k ok K' = K' v := by
  unfold lookupK at *
  split at h
  · split at h
    · obtain ⟨hk, h⟩ := br_some h
      obtain ⟨res, hres, h⟩ := bind_some h
      obtain ⟨z, hz, h⟩ := bind_some h
      refine ⟨_, castK_some (K := fun v => K (br ok (.tuple [v, .bool res.isSome]) v)) h, fun R' K' => ?_⟩
      rw [hk, mapFind_push hres x, hz]
      exact castK_any h (fun v => K' (br ok (.tuple [v, .bool res.isSome]) v))
    · cases h
  · cases h
theorem lenMap_push {t : TypeId} {a : AV} {K : AV → Option R} {r : R} (h : lenMapK P H t a K = some r) (x : Blk) : ∃ v, K v = some r ∧ ∀ (R' : Type) (K' : AV → Option R'), lenMapK P (H.push x) t a K' = K' v := by
  unfold lenMapK at *
  split at h
  · split at h
    · rename_i m
      obtain ⟨n, hn, hK⟩ := bind_some h
      refine ⟨_, hK, fun R' K' => ?_⟩
      have : lenMap (H.push x) m = some n := by
        unfold lenMap at *
        cases m with
        | none => exact hn
        | some b =>
          obtain ⟨q, h1, h2⟩ := Option.map_eq_some_iff.1 (show ((H.mapAt b).map fun p => p.1.length) = some n from hn)
          show (((H.push x).mapAt b).map fun p => p.1.length) = some n
          rw [mapAt_push h1 x, Option.map_some, h2]
      rw [this]; rfl
    · cases h
  · cases h

/-- What an operation gives, and the heap behind it. -/
noncomputable def pairK (v : AV) (H : Heap) : Option (AV × Heap) := some (v, H)

theorem read_push {C : Oracle (AV × Heap)} {op : Op} (hc : clsOf P op = .read) {v : AV} (h : stepK P C op ty E H pairK = some (v, H)) (x : Blk) : stepK P C op ty E (H.push x) pairK = some (v, H.push x) := by
  cases op <;> simp only [clsOf, reduceCtorEq] at hc <;> simp only [stepK] at h ⊢
  case load t a =>
    obtain ⟨u, h1, h2⟩ := load_push h x
    rw [h2]; cases h1; rfl
  case lookup t a k ok =>
    obtain ⟨u, h1, h2⟩ := lookup_push h x
    rw [h2]; cases h1; rfl
  case call c =>
    obtain ⟨callee, args, ts⟩ := c
    simp only at hc h ⊢
    cases callee with
    | value f => cases hc
    | invoke a b => cases hc
    | builtin b =>
      cases b <;> simp only at hc h ⊢ <;> try (cases hc; done)
      case len =>
        cases hm : isMapTy P ts.toList with
        | false => rw [hm] at hc; cases hc
        | true =>
          rw [hm, br_true] at h
          rw [br_true]
          split at h
          · rename_i y t hx ht
            obtain ⟨u, h1, h2⟩ := lenMap_push h x
            rw [h2]; cases h1; rfl
          · cases h
end
end Go.Ab
