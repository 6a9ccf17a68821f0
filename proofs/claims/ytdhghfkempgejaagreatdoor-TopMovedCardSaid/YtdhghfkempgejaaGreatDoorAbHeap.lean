/- The abstract machine, 2: what happens to the representation when a block is made or changed. -/
import Derived.Test.YtdhghfkempgejaaGreatDoorAbBase
namespace Go.Ab
open Go.RowKit

def Ren.set (ρ : Ren) (b g : Nat) (l : Loc) : Ren := fun b' g' => if b' = b ∧ g' = g then some l else ρ b' g'
theorem Ren.set_same (ρ : Ren) (b g : Nat) (l : Loc) : ρ.set b g l b g = some l := by simp [Ren.set]
theorem Ren.set_other (ρ : Ren) {b g b' g' : Nat} (l : Loc) (h : b' ≠ b ∨ g' ≠ g) : ρ.set b g l b' g' = ρ b' g' := by
  unfold Ren.set; rw [if_neg]; rintro ⟨a, c⟩; rcases h with h | h <;> contradiction
theorem Ren.le_set (ρ : Ren) {b g : Nat} (l : Loc) (h : ρ b g = none) : ρ.le (ρ.set b g l) := fun b' g' l' e => by
  by_cases k : b' = b ∧ g' = g
  · obtain ⟨rfl, rfl⟩ := k; rw [h] at e; cases e
  · unfold Ren.set; rw [if_neg k]; exact e
theorem Ren.set_inv {ρ : Ren} {b g b' g' : Nat} {l l' : Loc} (h : ρ.set b g l b' g' = some l') : (b' = b ∧ g' = g ∧ l' = l) ∨ ρ b' g' = some l' := by
  by_cases k : b' = b ∧ g' = g
  · obtain ⟨rfl, rfl⟩ := k; rw [Ren.set_same] at h; cases h; exact .inl ⟨rfl, rfl, rfl⟩
  · unfold Ren.set at h; rw [if_neg k] at h; exact .inr h

section
variable {P : Program} {w0 : World} {ρ ρ' : Ren} {H H' : Heap} {w w' : World}

theorem CellsRep.mono {e : TypeId} {data : List AV} {n : Nat} {ro : Bool} {l : Loc} (h : CellsRep P ρ w e data n ro l) (hρ : ρ.le ρ') (hw : w'.heap[l.cb]? = w.heap[l.cb]?) :
    CellsRep P ρ' w' e data n ro l := by
  obtain ⟨c, fr, ⟨e', h1, he'⟩, h2, h3, h5⟩ := h.ex
  refine ⟨h.le, h.room, c, fr, ⟨e', hw.trans h1, he'⟩, h2, h3, fun o a b => ?_⟩
  obtain ⟨v, v', x, y, z⟩ := h5 o a b
  exact ⟨v, v', x, y, z.mono hρ⟩
theorem BlkRep.mono {l : Loc} {g : Nat} {x : Blk} (h : BlkRep P ρ w l g x) (hρ : ρ.le ρ') (hw : w'.heap[l.cb]? = w.heap[l.cb]?) : BlkRep P ρ' w' l g x := by
  cases x with
  | gone => exact h
  | cells e g0 data old ro => exact fun n hn => (h n hn).mono hρ hw
  | map es clock =>
    obtain ⟨h0, es', h1, h2⟩ := h
    exact ⟨h0, es', hw.trans h1, h2.mono hρ⟩
  | iter m since seen last =>
    cases m with
    | none => exact ⟨h.1, h.2.1, hw.trans h.2.2⟩
    | some m =>
      obtain ⟨h0, hs, l', h1, h2⟩ := h
      exact ⟨h0, hs, l', hρ _ _ _ h1, hw.trans h2⟩
  | siter s pos => exact ⟨h.1, h.2.1, hw.trans h.2.2⟩
  | dead => trivial

/-- The same heap, whatever was drawn. -/
theorem Rep.same (h : Rep P w0 ρ H w) (hh : w'.heap = w.heap) (ho : w'.os = w.os) (ht : w'.tape = w.tape) (hp : w'.output = w.output) : Rep P w0 ρ H w' where
  below := ⟨ho.trans h.below.os, ht.trans h.below.tape, hp.trans h.below.output, by rw [hh]; exact h.below.size, fun k hk => by rw [hh]; exact h.below.block k hk⟩
  dom := fun b g l e => by rw [hh]; exact h.dom b g l e
  inj := h.inj
  al := h.al
  gen := h.gen
  blk := fun b g l e => (h.blk b g l e).mono (Ren.le_refl ρ) (by rw [hh])
  own := h.own
theorem Rep.drew (h : Rep P w0 ρ H w) : Rep P w0 ρ H w.drew := h.same rfl rfl rfl rfl

/-- A new block of the model's becomes block 'b' of the heap, which no value knew. -/
theorem Rep.new (h : Rep P w0 ρ H w) (b : Nat) (o : Obj) (l : Loc) (hfree : ∀ g, ρ b g = none) (hget : ∀ c g l, ρ c g = some l → H'.get c = H.get c) (hsz : H.size ≤ H'.size) (hb : b < H'.size)
    (hl : l.cb = w.heap.size) (hro : (H'.get b).ro = false) (hx : BlkRep P (ρ.set b 0 l) (w.alloc o) l 0 (H'.get b)) : Rep P w0 (ρ.set b 0 l) H' (w.alloc o) := by
  have hle : ρ.le (ρ.set b 0 l) := Ren.le_set ρ l (hfree 0)
  refine ⟨?_, ?_, ?_, ?_, ?_, ?_, ?_⟩
  · exact h.below.alloc h.below.size o
  · intro c g l' e
    rcases Ren.set_inv e with ⟨rfl, rfl, rfl⟩ | e
    · exact ⟨hb, by simp [hl]⟩
    · have := h.dom c g l' e; simp; omega
  · intro c g l1 c' g' l2 e e' hcb
    rcases Ren.set_inv e with ⟨k1, k2, k3⟩ | f <;> rcases Ren.set_inv e' with ⟨k1', k2', k3'⟩ | f'
    · exact .inl (k1.trans k1'.symm)
    · subst k3; have := (h.dom c' g' l2 f').2; omega
    · subst k3'; have := (h.dom c g l1 f).2; omega
    · rw [hget c g l1 f, hget c' g' l2 f']; exact h.inj c g l1 c' g' l2 f f' hcb
  · intro c g l1 g' l2 e e' hcb
    rcases Ren.set_inv e with ⟨k1, k2, k3⟩ | f <;> rcases Ren.set_inv e' with ⟨k1', k2', k3'⟩ | f'
    · subst k3; subst k3'; omega
    · subst k3; have := (h.dom c g' l2 f').2; omega
    · subst k3'; have := (h.dom c g l1 f).2; omega
    · exact h.al c g l1 g' l2 f f' hcb
  · intro c g l1 g0 e he
    rcases Ren.set_inv e with ⟨rfl, rfl, rfl⟩ | e
    · exact Nat.zero_le _
    · rw [hget c g l1 e] at he; exact h.gen c g l1 g0 e he
  · intro c g l1 e
    rcases Ren.set_inv e with ⟨rfl, rfl, rfl⟩ | e
    · exact hx
    · rw [hget c g l1 e]
      exact (h.blk c g l1 e).mono hle (Below.heap_alloc w o _ (h.dom c g l1 e).2)
  · intro c g l1 e hr
    rcases Ren.set_inv e with ⟨rfl, rfl, rfl⟩ | e
    · rw [hl]; exact h.below.size
    · rw [hget c g l1 e] at hr; exact h.own c g l1 e hr

theorem Rep.fresh (h : Rep P w0 ρ H w) : ∀ g, ρ H.size g = none := fun g => by
  cases e : ρ H.size g with
  | none => rfl
  | some l => have := (h.dom _ _ _ e).1; omega

theorem Rep.push (h : Rep P w0 ρ H w) (o : Obj) (x : Blk) (l : Loc) (hl : l.cb = w.heap.size) (hro : x.ro = false) (hx : BlkRep P (ρ.set H.size 0 l) (w.alloc o) l 0 x) :
    Rep P w0 (ρ.set H.size 0 l) (H.push x) (w.alloc o) ∧ Ext ρ H (ρ.set H.size 0 l) (H.push x) := by
  refine ⟨h.new H.size o l h.fresh (fun c g l e => Heap.get_push_old H x (h.dom c g l e).1) (by simp) (by simp) hl (by rw [Heap.get_push_new]; exact hro) (by rw [Heap.get_push_new]; exact hx), ?_⟩
  exact ⟨Ren.le_set ρ l (h.fresh 0), by simp, fun b hb hn => ⟨fun g => by rw [Ren.set_other ρ l (.inl (by omega))]; exact hn g, Heap.get_push_old H x hb⟩⟩

/-- A block of one's own is changed: its cells in the model, perhaps with a new generation. -/
theorem Rep.change (h : Rep P w0 ρ H w) (b : Nat) (x : Blk) (hρ : ρ.le ρ') (hoth : ∀ c g, c ≠ b → ρ' c g = ρ c g) (hb : b < H.size) (hnro : (H.get b).ro = false)
    (ho : w'.os = w.os) (ht : w'.tape = w.tape) (hp : w'.output = w.output) (hsize : w.heap.size ≤ w'.heap.size)
    (hw : ∀ k, k < w.heap.size → (∀ g l, ρ b g = some l → l.cb ≠ k) → w'.heap[k]? = w.heap[k]?)
    (hnew : ∀ g l, ρ' b g = some l → l.cb < w'.heap.size ∧ BlkRep P ρ' w' l g x ∧ ((∃ g' l', ρ b g' = some l' ∧ l'.cb = l.cb) ∨ w.heap.size ≤ l.cb))
    (hal : ∀ g l g' l', ρ' b g = some l → ρ' b g' = some l' → l.cb = l'.cb → l.s + l'.lo = l'.s + l.lo)
    (hgen : ∀ g l g0, ρ' b g = some l → (∃ e d o r, x = .cells e g0 d o r) → g ≤ g0) : Rep P w0 ρ' (H.put b x) w' := by
  have hget : ∀ c, c ≠ b → (H.put b x).get c = H.get c := fun c hc => Heap.get_put_ne H x hc
  have hbl : ∀ k, k < w0.heap.size → w'.heap[k]? = w.heap[k]? := fun k hk => hw k (Nat.lt_of_lt_of_le hk h.below.size) fun g l e => by
    have := h.own b g l e hnro; omega
  refine ⟨?_, ?_, ?_, ?_, ?_, ?_, ?_⟩
  · exact ⟨ho.trans h.below.os, ht.trans h.below.tape, hp.trans h.below.output, Nat.le_trans h.below.size hsize, fun k hk => (hbl k hk).trans (h.below.block k hk)⟩
  · intro c g l e
    by_cases hc : c = b
    · subst hc; exact ⟨hb, (hnew g l e).1⟩
    · rw [hoth c g hc] at e; have := h.dom c g l e; exact ⟨this.1, by omega⟩
  · intro c g l1 c' g' l2 e e' hcb
    have key : ∀ c' g' l2 g l1, c' ≠ b → ρ c' g' = some l2 → ρ' b g = some l1 → l1.cb ≠ l2.cb := by
      intro c' g' l2 g l1 hc e' e hcb
      rcases (hnew g l1 e).2.2 with ⟨g3, l3, e3, h3⟩ | h3
      · rcases h.inj _ _ _ _ _ _ e3 e' (h3.trans hcb) with r | r
        · exact hc r.symm
        · rw [hnro] at r; exact absurd r.1 (by simp)
      · have := (h.dom c' g' l2 e').2; omega
    by_cases hc : c = b <;> by_cases hc' : c' = b
    · exact .inl (hc.trans hc'.symm)
    · subst hc; rw [hoth c' g' hc'] at e'; exact absurd hcb (key c' g' l2 g l1 hc' e' e)
    · subst hc'; rw [hoth c g hc] at e; exact absurd hcb.symm (key c g l1 g' l2 hc e e')
    · rw [hoth c g hc] at e; rw [hoth c' g' hc'] at e'; rw [hget c hc, hget c' hc']
      exact h.inj c g l1 c' g' l2 e e' hcb
  · intro c g l1 g' l2 e e' hcb
    by_cases hc : c = b
    · subst hc; exact hal g l1 g' l2 e e' hcb
    · rw [hoth c g hc] at e; rw [hoth c g' hc] at e'; exact h.al c g l1 g' l2 e e' hcb
  · intro c g l1 g0 e he
    by_cases hc : c = b
    · subst hc; rw [Heap.get_put_same H c x hb] at he; exact hgen g l1 g0 e he
    · rw [hoth c g hc] at e; rw [hget c hc] at he; exact h.gen c g l1 g0 e he
  · intro c g l1 e
    by_cases hc : c = b
    · subst hc; rw [Heap.get_put_same H c x hb]; exact (hnew g l1 e).2.1
    · rw [hoth c g hc] at e; rw [hget c hc]
      refine (h.blk c g l1 e).mono hρ (hw _ (h.dom c g l1 e).2 fun g2 l2 e2 hcb => ?_)
      rcases h.inj _ _ _ _ _ _ e2 e hcb with r | r
      · exact hc r.symm
      · rw [hnro] at r; exact absurd r.1 (by simp)
  · intro c g l1 e hr
    by_cases hc : c = b
    · subst hc
      rcases (hnew g l1 e).2.2 with ⟨g3, l3, e3, h3⟩ | h3
      · rw [← h3]; exact h.own c g3 l3 e3 hnro
      · exact Nat.le_trans h.below.size h3
    · rw [hoth c g hc] at e; rw [hget c hc] at hr; exact h.own c g l1 e hr

/-- A change of a block that some value knows is an extension. -/
theorem Ext.change {b g : Nat} {l : Loc} (e : ρ b g = some l) (x : Blk) (hρ : ρ.le ρ') (hoth : ∀ c g, c ≠ b → ρ' c g = ρ c g) : Ext ρ H ρ' (H.put b x) :=
  ⟨hρ, Nat.le_refl _, fun c _ hn => by
    have hc : c ≠ b := fun hc => by subst hc; rw [hn g] at e; cases e
    exact ⟨fun g' => by rw [hoth c g' hc]; exact hn g', Heap.get_put_ne H x hc⟩⟩
end
end Go.Ab
