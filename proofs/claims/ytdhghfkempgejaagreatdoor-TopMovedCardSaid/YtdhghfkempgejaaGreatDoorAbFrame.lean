/- The abstract machine, 32: calls without memory on a heap of their own; read-only tables. -/
import Derived.Test.YtdhghfkempgejaaGreatDoorAbSite3
import Derived.Lib.LaidTab
import Derived.RowKit
namespace Go.Ab
open Go.RowKit

/-- Values that lead to no memory, for the kernel. -/
def flat1 : AV → Bool
  | .bool _ | .int _ _ | .str _ | .nilFn | .nilIface => true
  | .ptr o => Option.isNone o
  | .map o => Option.isNone o
  | .sl s => match s.a with
    | none => match s.c with
      | .known _ => true
      | _ => false
    | _ => false
  | _ => false
noncomputable def flats1 (l : List AV) : Bool := List.rec true (fun v _ ih => br (flat1 v) ih false) l
noncomputable def flat2 : AV → Bool
  | .agg l => flats1 l
  | v => flat1 v
noncomputable def flats2 (l : List AV) : Bool := List.rec true (fun v _ ih => br (flat2 v) ih false) l
noncomputable def flat3 : AV → Bool
  | .tuple l => flats2 l
  | v => flat2 v

section
variable {P : Program} {gl : Gl} {w0 : World} {ρ ρ' : Ren} {H H' : Heap} {w w' : World}
theorem flat1_VR {v : AV} {v' : Value} (hf : flat1 v = true) (h : VR ρ v v') : VR ρ' v v' := by
  refine flat0_VR ?_ h
  unfold flat1 at hf
  split at hf
  · rfl
  · rfl
  · rfl
  · rfl
  · rfl
  · rename_i o; cases o with
    | none => rfl
    | some _ => cases hf
  · rename_i o; cases o with
    | none => rfl
    | some _ => cases hf
  · rename_i s
    obtain ⟨a, n, c⟩ := s
    cases a with
    | some _ => cases hf
    | none => cases c with
      | known _ => rfl
      | unk _ => cases hf
  · cases hf
theorem flats1_VR : ∀ {l : List AV} {l' : List Value}, flats1 l = true → VRs ρ l l' → VRs ρ' l l'
  | _, _, _, .nil => .nil
  | v :: l, _, hf, .cons a b => by
    have h' : br (flat1 v) (flats1 l) false = true := hf
    cases hq : flat1 v with
    | false => rw [hq] at h'; cases h'
    | true => rw [hq] at h'; exact .cons (flat1_VR hq a) (flats1_VR h' b)
theorem flat2_VR {v : AV} {v' : Value} (hf : flat2 v = true) (h : VR ρ v v') : VR ρ' v v' := by
  unfold flat2 at hf
  split at hf
  · cases h with
    | agg hq => exact .agg (flats1_VR hf hq)
  · exact flat1_VR hf h
theorem flats2_VR : ∀ {l : List AV} {l' : List Value}, flats2 l = true → VRs ρ l l' → VRs ρ' l l'
  | _, _, _, .nil => .nil
  | v :: l, _, hf, .cons a b => by
    have h' : br (flat2 v) (flats2 l) false = true := hf
    cases hq : flat2 v with
    | false => rw [hq] at h'; cases h'
    | true => rw [hq] at h'; exact .cons (flat2_VR hq a) (flats2_VR h' b)
theorem flat3_VR {v : AV} {v' : Value} (hf : flat3 v = true) (h : VR ρ v v') : VR ρ' v v' := by
  unfold flat3 at hf
  split at hf
  · cases h with
    | tuple hq => exact .tuple (flats2_VR hf hq)
  · exact flat2_VR hf h

/-- A call without memory, on the base's heap. -/
noncomputable def frameF (Hg : Heap) (run : Run) : Run := fun F args H => br (flats2 args) ((run F args Hg).bind fun p => br (flat3 p.1) (some (p.1, H)) none) (run F args H)
theorem EntryOK.frame {f : FuncId} {run : Run} {ρg : World → Ren} {Hg : Heap} (hb : Base P gl ρg Hg) (h : EntryOK P gl f run) : EntryOK P gl f (frameF Hg run) := by
  intro F hF args H v H' hr
  unfold frameF at hr
  cases hq : flats2 args with
  | false => rw [hq] at hr; exact h F hF args H v H' hr
  | true =>
    rw [hq, br_true] at hr
    obtain ⟨⟨v1, H1⟩, h1, h2⟩ := bind_some hr
    obtain ⟨hv, h2⟩ := br_some h2
    cases h2
    obtain ⟨hc, hs⟩ := h F hF args Hg v1 H1 h1
    refine ⟨hc, fun w0 ρ w args' hrep hargs hgl => ?_⟩
    have hW : gl.W w := hb.stays w0 w hgl.1 hrep.below
    refine (hs w (ρg w) w args' (hb.rep w hW) (flats2_VR hq hargs) (hb.glob w hW)).mono ?_
    rintro e w' ⟨ρ1, v', rfl, _, hr, hv'⟩
    exact ⟨ρ, v', rfl, Ext.refl ρ H, hrep.later hr.below, flat3_VR hv hv'⟩

/-! ### Tables -/
/-- The variables at blocks 0, 1, .. hold these numbers. -/
def TabsAt (k : IntKind) (tabs : List (List Int)) (w : World) : Prop :=
  ∀ (g : Nat) (zs : List Int), tabs[g]? = some zs → ∃ (t : TypeId) (fr : Nat × Nat), w.heap[g]? = some (Obj.cells (zs.map fun z => Value.int k z).toArray t fr)
def glTabs (k : IntKind) (tabs : List (List Int)) : Gl := ⟨fun g => Nat.blt g tabs.length, TabsAt k tabs⟩
def ρTabs (tabs : List (List Int)) : World → Ren := fun _ b g => if g = 0 then (tabs[b]?).map fun zs => ⟨b, 0, 0, zs.length⟩ else none
noncomputable def HgTabs (k : IntKind) (tabs : List (List Int)) : Heap := tabs.foldl (fun H zs => H.push (.cells 0 0 (zs.map (AV.int k)) [] true)) ⟨.leaf, 0⟩

theorem ints_VRs (k : IntKind) : ∀ (zs : List Int), VRs ρ (zs.map (AV.int k)) (zs.map fun z => Value.int k z)
  | [] => .nil
  | z :: zs => .cons (.int k z) (ints_VRs k zs)
theorem HgTabs_size (k : IntKind) (tabs : List (List Int)) : (HgTabs k tabs).size = tabs.length := by
  have : ∀ (l : List (List Int)) (H : Heap), (l.foldl (fun H zs => H.push (.cells 0 0 (zs.map (AV.int k)) [] true)) H).size = H.size + l.length := by
    intro l
    induction l with
    | nil => intro H; rfl
    | cons x l ih => intro H; rw [List.foldl_cons, ih]; simp; omega
  unfold HgTabs
  rw [this]; simp
theorem HgTabs_get (k : IntKind) (tabs : List (List Int)) {g : Nat} {zs : List Int} (h : tabs[g]? = some zs) : (HgTabs k tabs).get g = .cells 0 0 (zs.map (AV.int k)) [] true := by
  have : ∀ (l : List (List Int)) (H : Heap) (g : Nat), (l.foldl (fun H zs => H.push (.cells 0 0 (zs.map (AV.int k)) [] true)) H).get g = if g < H.size then H.get g else match l[g - H.size]? with
      | some zs => .cells 0 0 (zs.map (AV.int k)) [] true
      | none => .gone := by
    intro l
    induction l with
    | nil =>
      intro H g
      by_cases hg : g < H.size
      · rw [if_pos hg]; rfl
      · rw [if_neg hg]; simp [Heap.get_ge H (Nat.le_of_not_lt hg)]
    | cons x l ih =>
      intro H g
      rw [List.foldl_cons, ih]
      by_cases hg : g < H.size
      · rw [if_pos hg, if_pos (by simp; omega), Heap.get_push_old H _ hg]
      · rw [if_neg hg]
        by_cases he : g = H.size
        · subst he
          rw [if_pos (by simp), Heap.get_push_new]; simp
        · rw [if_neg (by simp; omega)]
          have : g - H.size = (g - (H.size + 1)) + 1 := by omega
          rw [this, Heap.size_push]
          rfl
  unfold HgTabs
  rw [this, if_neg (by simp)]
  simp [h]
theorem base_tabs (k : IntKind) (tabs : List (List Int)) : Base P (glTabs k tabs) (ρTabs tabs) (HgTabs k tabs) where
  stays := by
    intro w0 w hW hb g zs h
    obtain ⟨t, fr, h1⟩ := hW g zs h
    exact ⟨t, fr, (hb.block g (Array.getElem?_eq_some_iff.1 h1).1).trans h1⟩
  rep := by
    intro w hW
    have hρ : ∀ b g l, ρTabs tabs w b g = some l → g = 0 ∧ ∃ zs, tabs[b]? = some zs ∧ l = ⟨b, 0, 0, zs.length⟩ := by
      intro b g l h
      unfold ρTabs at h
      split at h
      · rename_i h0
        obtain ⟨zs, h1, h2⟩ := Option.map_eq_some_iff.1 h
        exact ⟨h0, zs, h1, h2.symm⟩
      · cases h
    refine ⟨⟨rfl, rfl, rfl, Nat.le_refl _, fun _ _ => rfl⟩, ?_, ?_, ?_, ?_, ?_, ?_⟩
    · intro b g l h
      obtain ⟨_, zs, h1, rfl⟩ := hρ b g l h
      obtain ⟨t, fr, h2⟩ := hW b zs h1
      exact ⟨by rw [HgTabs_size]; exact (List.getElem?_eq_some_iff.1 h1).1, (Array.getElem?_eq_some_iff.1 h2).1⟩
    · intro b g l b' g' l' h h' e
      obtain ⟨_, zs, h1, rfl⟩ := hρ b g l h
      obtain ⟨_, zs', h1', rfl⟩ := hρ b' g' l' h'
      exact .inl e
    · intro b g l g' l' h h' e
      obtain ⟨_, zs, h1, rfl⟩ := hρ b g l h
      obtain ⟨_, zs', h1', rfl⟩ := hρ b g' l' h'
      rfl
    · intro b g l g0 h he
      rw [(hρ b g l h).1]; exact Nat.zero_le _
    · intro b g l h
      obtain ⟨rfl, zs, h1, rfl⟩ := hρ b g l h
      obtain ⟨t, fr, h2⟩ := hW b zs h1
      rw [HgTabs_get k tabs h1]
      intro n hn
      rw [Blk.len_cells, if_pos rfl] at hn
      cases hn
      refine ⟨Nat.le_refl _, by simp, _, fr, ⟨t, h2, (fun h => by cases h)⟩, (fun h => by cases h), by simp, fun o _ ho => ?_⟩
      rw [List.length_map] at ho
      refine ⟨.int k zs[o], .int k zs[o], by simp [ho], by simp [ho], .int _ _⟩
    · intro b g l h hro
      obtain ⟨_, zs, h1, rfl⟩ := hρ b g l h
      rw [HgTabs_get k tabs h1] at hro
      cases hro
  glob := by
    intro w hW
    refine ⟨hW, fun g hg => ?_⟩
    have hlt : g < tabs.length := blt_lt hg
    exact ⟨⟨g, 0, 0, tabs[g].length⟩, by unfold ρTabs; rw [if_pos rfl, List.getElem?_eq_getElem hlt]; rfl, rfl, rfl, rfl⟩

theorem tabs_nil {k : IntKind} {w : World} : TabsAt k [] w := fun g zs h => by simp at h
theorem tab_of_TabIs {name : String} {k : IntKind} {zs : List Int} {g : Nat} (hg : P.globalNamed name = some g) (h : Lib.TabIs P w name k zs) : ∃ t fr, w.heap[g]? = some (Obj.cells (zs.map fun z => Value.int k z).toArray t fr) := by
  unfold Lib.TabIs World.var? at h
  rw [hg, Option.bind_some] at h
  split at h
  · rename_i cs t fr hc
    cases h
    exact ⟨t, fr, hc⟩
  · cases h

/-- What a law's evaluation says of its calls. -/
theorem calls_of_eval {F : FTab} (hF : FSound P gl F) {ρg : World → Ren} {Hg H1 : Heap} (hb : Base P gl ρg Hg) {f : FuncId} {args : List AV} {args' : Array Value} {b : Bool} (h : F f args Hg = some (.bool b, H1)) {w : World} (hW : gl.W w) (ha : VRs (ρg w) args args'.toList) :
    Calls P f args' w fun e w' => e = .returned (.bool b) ∧ Below w.heap.size w w' := by
  refine ((hF f args Hg _ H1 h).2 w (ρg w) w args' (hb.rep w hW) ha (hb.glob w hW)).mono ?_
  rintro e w' ⟨ρ', v', rfl, _, hr, hv⟩
  cases hv
  exact ⟨rfl, hr.below⟩
end
end Go.Ab
