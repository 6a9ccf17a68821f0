/- The abstract machine, 27: calls that are evaluated on a small heap of what they read, and used on any heap. -/
import Derived.Test.YtdhghfkempgejaaGreatDoorAbFun
namespace Go.Ab
open Go.RowKit

/-- Values that lead to no memory. -/
def flat0 : AV → Bool
  | .bool _ | .int _ _ | .str _ | .ptr none | .map none | .nilFn | .nilIface => true
  | .sl ⟨none, _, .known _⟩ => true
  | _ => false
def flatV : AV → Bool
  | .agg l => l.all flat0
  | .tuple l => l.all flat0
  | v => flat0 v

section
variable {P : Program} {gl : Gl} {w0 : World} {ρ ρ' : Ren} {H H' : Heap} {w w' : World}

theorem flat0_VR {v : AV} {v' : Value} (hf : flat0 v = true) (h : VR ρ v v') : VR ρ' v v' := by
  unfold flat0 at hf
  split at hf
  · cases h; exact .bool _
  · cases h; exact .int _ _
  · cases h; exact .str _
  · cases h; exact .nilPtr
  · cases h; exact .nilMap
  · cases h; exact .nilFn
  · cases h; exact .nilIface
  · cases h; exact .nilSl _ _
  · cases hf
theorem flat0_VRs : ∀ {l : List AV} {l' : List Value}, l.all flat0 = true → VRs ρ l l' → VRs ρ' l l'
  | _, _, _, .nil => .nil
  | _, _, hf, .cons a b => by
    rw [List.all_cons, Bool.and_eq_true] at hf
    exact .cons (flat0_VR hf.1 a) (flat0_VRs hf.2 b)
theorem flatV_VR {v : AV} {v' : Value} (hf : flatV v = true) (h : VR ρ v v') : VR ρ' v v' := by
  unfold flatV at hf
  split at hf
  · cases h with
    | agg hq => exact .agg (flat0_VRs hf hq)
  · cases h with
    | tuple hq => exact .tuple (flat0_VRs hf hq)
  · exact flat0_VR hf h

/-- The world went on, but what it held did not turn. -/
theorem Rep.later (h : Rep P w0 ρ H w) (hb : Below w.heap.size w w') : Rep P w0 ρ H w' where
  below := ⟨hb.os.trans h.below.os, hb.tape.trans h.below.tape, hb.output.trans h.below.output, Nat.le_trans h.below.size hb.size, fun k hk => (hb.block k (Nat.lt_of_lt_of_le hk h.below.size)).trans (h.below.block k hk)⟩
  dom := fun b g l e => ⟨(h.dom b g l e).1, Nat.lt_of_lt_of_le (h.dom b g l e).2 hb.size⟩
  inj := h.inj
  al := h.al
  gen := h.gen
  blk := fun b g l e => (h.blk b g l e).mono (Ren.le_refl ρ) (hb.block _ (h.dom b g l e).2)
  own := h.own

/-- What is known of the world ahead of all calls stays known, and is a heap of read-only blocks. -/
structure Base (P : Program) (gl : Gl) (ρg : World → Ren) (Hg : Heap) : Prop where
  stays : ∀ w0 w, gl.W w0 → Below w0.heap.size w0 w → gl.W w
  rep : ∀ w, gl.W w → Rep P w (ρg w) Hg w
  glob : ∀ w, gl.W w → GlobOK gl w (ρg w)

/-- A call without memory gives the same on any heap. -/
theorem Base.call {ρg : World → Ren} {Hg : Heap} (hb : Base P gl ρg Hg) {F : FTab} (hF : FSound P gl F) {f : FuncId} {args : List AV} {v : AV} {H1 : Heap} (h : F f args Hg = some (v, H1)) (ha : ∀ a ∈ args, flatV a = true) (hv : flatV v = true) :
    callable P f = true ∧ ∀ (w0 : World) (ρ : Ren) (H : Heap) (w : World) (args' : Array Value), Rep P w0 ρ H w → VRs ρ args args'.toList → GlobOK gl w0 ρ →
      Calls P f args' w fun e w' => ∃ ρ' v', e = .returned v' ∧ Ext ρ H ρ' H ∧ Rep P w0 ρ' H w' ∧ VR ρ' v v' := by
  obtain ⟨hc, hs⟩ := hF f args Hg v H1 h
  refine ⟨hc, fun w0 ρ H w args' hrep hargs hgl => ?_⟩
  have hW : gl.W w := hb.stays w0 w hgl.1 hrep.below
  have hargs' : ∀ {l : List AV} {l' : List Value}, (∀ a ∈ l, flatV a = true) → VRs ρ l l' → VRs (ρg w) l l' := by
    intro l l' hf hq
    induction hq using VRs.rec (motive_1 := fun _ _ _ => True) with
    | nil => exact .nil
    | cons a b _ ih => exact .cons (flatV_VR (hf _ List.mem_cons_self) a) (ih fun x hx => hf x (List.mem_cons_of_mem _ hx))
    | _ => trivial
  refine (hs w (ρg w) w args' (hb.rep w hW) (hargs' ha hargs) (hb.glob w hW)).mono ?_
  rintro e w' ⟨ρ1, v', rfl, _, hr, hv'⟩
  exact ⟨ρ, v', rfl, Ext.refl ρ H, hrep.later hr.below, flatV_VR hv hv'⟩
end
end Go.Ab
