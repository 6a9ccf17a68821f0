/- The abstract machine, 29: tables of printed functions. -/
import Derived.Test.YtdhghfkempgejaaGreatDoorAbShal
namespace Go.Ab
open Go.RowKit
abbrev Run := FTab → List AV → Heap → Option RV
abbrev Disp := Nat → Option Run

section
variable {P : Program} {gl : Gl}
/-- What a function's entry in a table must keep. -/
def EntryOK (P : Program) (gl : Gl) (f : FuncId) (run : Run) : Prop :=
  ∀ F, FSound P gl F → ∀ args H v H', run F args H = some (v, H') → callable P f = true ∧
    ∀ (w0 : World) (ρ : Ren) (w : World) (args' : Array Value), Rep P w0 ρ H w → VRs ρ args args'.toList → GlobOK gl w0 ρ →
      Calls P f args' w fun e w' => ∃ ρ' v', e = .returned v' ∧ Ext ρ H ρ' H' ∧ Rep P w0 ρ' H' w' ∧ VR ρ' v v'

theorem EntryOK.of_body {f : FuncId} {fn : Func} {run : Run} {N : Nat} {pl : Plan} {D : FTab → Drawer RV} (hc : callable P f = true) (hfn : P.funcs[f]? = some fn) (hD : ∀ F, FSound P gl F → DSound P gl fn.ntmps (D F) (subs (fn.body.getD .skip)))
    (h : ∀ F args H r, run F args H = some r → bodyF P gl F.oracle (D F) N pl fn args H pairK = some r) : EntryOK P gl f run := by
  intro F hF args H v H' hr
  refine ⟨hc, fun w0 ρ w args' hrep hargs hgl => (body_sound (hF.oracle (R := RV)) (hD F hF) hfn (h F args H _ hr) hrep hargs hgl).mono ?_⟩
  rintro e w' ⟨ρ', v1, v', H1, rfl, he, hrp, hv, hf⟩
  have := Option.some.inj hf
  cases this
  exact ⟨ρ', v', rfl, he, hrp, hv⟩

/-- A call that is evaluated ahead. -/
theorem EntryOK.of_call {f : FuncId} {ρg : World → Ren} {Hg H1 : Heap} {v : AV} (hb : Base P gl ρg Hg) {F0 : FTab} (hF : FSound P gl F0) (h : F0 f [] Hg = some (v, H1)) (hv : flatV v = true) :
    EntryOK P gl f fun _ args H => isNil args (some (v, H)) := by
  intro F _ args H v' H' hr
  obtain ⟨hc, hs⟩ := hb.call hF h (fun _ h => by cases h) hv
  cases args with
  | cons _ _ => cases hr
  | nil =>
    cases hr
    exact ⟨hc, fun w0 ρ w args' hrep hargs hgl => hs w0 ρ _ w args' hrep hargs hgl⟩

def DispOK (P : Program) (gl : Gl) (d : Disp) : Prop := ∀ f g, d f = some g → EntryOK P gl f g
noncomputable def dispNode (k : Nat) (l r : Disp) : Disp := fun f => br (Nat.blt f k) (l f) (r f)
noncomputable def dispLeaf (k : Nat) (g : Run) : Disp := fun f => br (Nat.beq f k) (some g) none
def dispNone : Disp := fun _ => none
theorem DispOK.none : DispOK P gl dispNone := fun _ _ h => by cases h
theorem DispOK.leaf {k : Nat} {g : Run} (h : EntryOK P gl k g) : DispOK P gl (dispLeaf k g) := by
  intro f g' h'
  obtain ⟨h1, h2⟩ := br_some h'
  have := Nat.eq_of_beq_eq_true h1
  cases h2
  rw [this]; exact h
theorem DispOK.node {k : Nat} {l r : Disp} (hl : DispOK P gl l) (hr : DispOK P gl r) : DispOK P gl (dispNode k l r) := by
  intro f g h
  have h' : br (Nat.blt f k) (l f) (r f) = some g := h
  cases e : Nat.blt f k with
  | true => rw [e] at h'; exact hl f g h'
  | false => rw [e] at h'; exact hr f g h'
/-- First one table, then another. -/
noncomputable def dispOr (a b : Disp) : Disp := fun f => match a f with
  | some g => some g
  | none => b f
theorem DispOK.or {a b : Disp} (ha : DispOK P gl a) (hb : DispOK P gl b) : DispOK P gl (dispOr a b) := by
  intro f g h
  unfold dispOr at h
  split at h
  · rename_i g' hg; cases h; exact ha f _ hg
  · exact hb f g h

noncomputable def ftab (disp : Disp) (d : Nat) : FTab := Nat.rec (fun _ _ _ => none) (fun _ F f args H => (disp f).bind fun g => g F args H) d
theorem ftab_sound {disp : Disp} (h : DispOK P gl disp) : ∀ d, FSound P gl (ftab disp d)
  | 0 => fun f args H v H' h => by cases h
  | d + 1 => fun f args H v H' hr => by
    obtain ⟨g, h1, h2⟩ := bind_some (show ((disp f).bind fun g => g (ftab disp d) args H) = some (v, H') from hr)
    exact h f g h1 _ (ftab_sound h d) args H v H' h2
end

def asAggL : AV → Option (List AV)
  | .agg l => some l
  | _ => none
theorem asAggL_some {v : AV} {l : List AV} (h : asAggL v = some l) : v = .agg l := by
  unfold asAggL at h; split at h <;> simp_all
theorem headL_some {l : List AV} {a : AV} (h : headL l = some a) : l = a :: tailL l := by
  cases l with
  | nil => cases h
  | cons b l => cases h; rfl
theorem isNil_some {R : Type} {l : List AV} {x : Option R} {r : R} (h : isNil l x = some r) : l = [] ∧ x = some r := by
  cases l with
  | nil => exact ⟨rfl, h⟩
  | cons _ _ => cases h
end Go.Ab
