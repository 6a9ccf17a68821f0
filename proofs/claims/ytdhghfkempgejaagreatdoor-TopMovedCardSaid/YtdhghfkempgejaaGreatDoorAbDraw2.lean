/- The abstract machine, 23: what a drawn region's evaluation shows: the operations in their order, and that reads may go elsewhere. -/
import Derived.Test.YtdhghfkempgejaaGreatDoorAbDraw1
namespace Go.Ab
open Go.RowKit

/-- An operation as it went: the temporaries and the heap before it, its value and the heap behind it, and whether its guard let it by. -/
structure Ent where
  i : Nat
  o : Oper
  t : T AV
  v : AV
  h : Heap
  h' : Heap
  did : Bool

section
variable {R : Type} (P : Program) (gl : Gl) (F : FTab) (ops : Array Oper) (n : Nat) (pres : List Nat)

def Ent.isEff (e : Ent) : Bool := e.did && (clsOf P e.o.op).isEff
def Ent.isNew (e : Ent) : Bool := e.did && (clsOf P e.o.op).isNew
def Ent.isRead (e : Ent) : Bool := e.did && (clsOf P e.o.op).isRead
def Ent.isPure (e : Ent) : Bool := e.did && (clsOf P e.o.op).isPure
noncomputable def Ent.E (e : Ent) : Operand → AV := evR gl e.t (e.o.looksAt ops)

/-- The operation gives the same at the heap 'H'. -/
def Ent.RD (e : Ent) (H : Heap) : Prop := stepK P F.oracle e.o.op e.o.type (e.E gl ops) H pairK = some (e.v, H)

structure EntOK (e : Ent) : Prop where
  op : ops[e.i]? = some e.o
  dst : ∀ t, e.o.dst = some t → t < n
  guard : ∀ (ρ : Ren) (a : Act), (∀ t ∈ e.o.looksAt ops, VR ρ (e.t.get .bad t) (a.tmps.getD t undef)) → Region.wanted e.o (yielded ops a.tmps) = e.did
  skip : e.did = false → e.v = .tuple [] ∧ e.h' = e.h
  run : e.did = true → stepK P F.oracle e.o.op e.o.type (e.E gl ops) e.h pairK = some (e.v, e.h')

def Chk (e f : Ent) : Prop :=
  (e.isRead P = true → f.isEff P = true → preB pres e.i f.i = true ∨ e.RD P gl F ops f.h') ∧ (e.isEff P = true → f.isRead P = true → preB pres e.i f.i = true ∨ f.RD P gl F ops e.h)

def updA (τ : Nat → AV) (d : Option Tmp) (v : AV) : Nat → AV := fun t => if d = some t then v else τ t

inductive Tr : (Nat → AV) → Heap → List Ent → (Nat → AV) → Heap → Prop where
  | nil (τ : Nat → AV) (H : Heap) : Tr τ H [] τ H
  | cons {τ : Nat → AV} {H : Heap} {e : Ent} {es : List Ent} {τ' : Nat → AV} {H' : Heap} : (∀ t, e.t.get .bad t = τ t) → e.h = H → Tr (updA τ e.o.dst e.v) e.h' es τ' H' → Tr τ H (e :: es) τ' H'

variable {P gl F ops n pres}

theorem guard_split {all : Array Oper} {o : Oper} {s : St} {yes no : St → Option R} {r : R} (h : guardK all o s yes no = some r) :
    ∃ s' : St, (∀ t, s'.t.get .bad t = s.t.get .bad t) ∧ s'.h = s.h ∧
      (((∀ (ρ : Ren) (a : Act), (∀ t ∈ o.looksAt all, VR ρ (s'.t.get .bad t) (a.tmps.getD t undef)) → Region.wanted o (yielded all a.tmps) = true) ∧ yes s' = some r) ∨
       ((∀ (ρ : Ren) (a : Act), (∀ t ∈ o.looksAt all, VR ρ (s'.t.get .bad t) (a.tmps.getD t undef)) → Region.wanted o (yielded all a.tmps) = false) ∧ no s' = some r)) := by
  unfold guardK at h
  unfold Region.wanted
  split at h
  · rename_i hg
    exact ⟨s, fun _ => rfl, rfl, .inl ⟨fun _ _ _ => by rw [hg], h⟩⟩
  · rename_i j want hg
    rw [hg]
    simp only
    split at h
    · rename_i hd
      exact ⟨s, fun _ => rfl, rfl, .inr ⟨fun _ _ _ => by unfold yielded; rw [hd]; rfl, h⟩⟩
    · rename_i d hd
      have hmem : d ∈ o.looksAt all := by
        unfold Oper.looksAt
        rw [hg]
        simp [hd]
      have hy : ∀ (a : Act) v, a.tmps.getD d undef = v → yielded all a.tmps j = (match v with | .bool b => some b | _ => none) := by
        intro a v hv
        unfold yielded
        rw [hd]
        simp only [Option.bind_some]
        rw [Array.getD_eq_getD_getElem?] at hv
        cases e : a.tmps[d]? with
        | none => rw [e] at hv; simp only [Option.getD_none] at hv; rw [← hv]; rfl
        | some u => rw [e] at hv; simp only [Option.getD_some] at hv; subst hv; cases u <;> rfl
      split at h
      · rename_i b hb
        have key : ∀ (s' : St), (∀ t, s'.t.get .bad t = s.t.get .bad t) → ∀ (ρ : Ren) (a : Act), (∀ t ∈ o.looksAt all, VR ρ (s'.t.get .bad t) (a.tmps.getD t undef)) → yielded all a.tmps j = some b := by
          intro s' hs ρ a hag
          have hvr := hag d hmem
          rw [hs, hb] at hvr
          generalize hv : a.tmps.getD d undef = dv at *
          cases hvr
          exact hy a _ hv
        have same : ∀ t, (T.set .bad s.t d (.bool b)).get .bad t = s.t.get .bad t := fun t => by
          rw [T.get_set]
          by_cases e : t = d
          · rw [if_pos e, e, hb]
          · rw [if_neg e]
        cases b with
        | true =>
          cases want with
          | true => exact ⟨⟨s.t.set .bad d (.bool true), s.h⟩, same, rfl, .inl ⟨fun ρ a hag => by rw [key _ same ρ a hag]; rfl, h⟩⟩
          | false => exact ⟨⟨s.t.set .bad d (.bool true), s.h⟩, same, rfl, .inr ⟨fun ρ a hag => by rw [key _ same ρ a hag]; rfl, h⟩⟩
        | false =>
          cases want with
          | true => exact ⟨⟨s.t.set .bad d (.bool false), s.h⟩, same, rfl, .inr ⟨fun ρ a hag => by rw [key _ same ρ a hag]; rfl, h⟩⟩
          | false => exact ⟨⟨s.t.set .bad d (.bool false), s.h⟩, same, rfl, .inl ⟨fun ρ a hag => by rw [key _ same ρ a hag]; rfl, h⟩⟩
      · rename_i hb
        refine ⟨s, fun _ => rfl, rfl, .inr ⟨fun ρ a hag => ?_, h⟩⟩
        have hvr := hag d hmem
        rw [hb] at hvr
        generalize hv : a.tmps.getD d undef = dv at *
        cases hvr with
        | tuple hc =>
          rw [hy a _ hv]
          cases want <;> rfl
      · cases h

theorem put_split {n : Nat} {s : St} {d : Option Tmp} {v : AV} {H : Heap} {K : St → Option R} {r : R} (h : putK n s d v H K = some r) :
    ∃ s', K s' = some r ∧ (∀ t, d = some t → t < n) ∧ (fun t => s'.t.get .bad t) = updA (fun t => s.t.get .bad t) d v ∧ s'.h = H := by
  unfold putK at h
  cases d with
  | none => exact ⟨_, h, fun t e => (by cases e), by funext t; simp [updA], rfl⟩
  | some d =>
    obtain ⟨hlt, h⟩ := br_some h
    refine ⟨_, h, fun t e => by cases e; exact blt_lt hlt, ?_, rfl⟩
    funext t
    show (s.t.set .bad d v).get .bad t = _
    rw [T.get_set]
    unfold updA
    by_cases e : t = d
    · subst e; rw [if_pos rfl, if_pos rfl]
    · rw [if_neg e, if_neg (by simpa using fun q => e q.symm)]

theorem rdB_RD {e : Ent} {H : Heap} (hc : clsOf P e.o.op = .read) (h : rdB P F e.o (e.E gl ops) e.v H = true) : e.RD P gl F ops H := by
  unfold rdB at h
  unfold Ent.RD
  split at h
  · rename_i p hp
    obtain ⟨v, hK, _⟩ := step_read hc hp
    cases hK
    rw [hp]
    have := avB_eq h
    simp only at this
    rw [this]
  · cases h

theorem isRead_cls {e : Ent} (h : e.isRead P = true) : e.did = true ∧ clsOf P e.o.op = .read := by
  unfold Ent.isRead at h
  rw [Bool.and_eq_true] at h
  refine ⟨h.1, ?_⟩
  cases hc : clsOf P e.o.op <;> rw [hc] at h <;> first | rfl | (cases h.2; done)
theorem isEff_cls {e : Ent} (h : e.isEff P = true) : e.did = true ∧ clsOf P e.o.op = .eff := by
  unfold Ent.isEff at h
  rw [Bool.and_eq_true] at h
  refine ⟨h.1, ?_⟩
  cases hc : clsOf P e.o.op <;> rw [hc] at h <;> first | rfl | (cases h.2; done)
theorem isNew_cls {e : Ent} (h : e.isNew P = true) : e.did = true ∧ clsOf P e.o.op = .new := by
  unfold Ent.isNew at h
  rw [Bool.and_eq_true] at h
  refine ⟨h.1, ?_⟩
  cases hc : clsOf P e.o.op <;> rw [hc] at h <;> first | rfl | (cases h.2; done)

theorem br_or {b c : Bool} (h : br b true c = true) : b = true ∨ c = true := by
  cases b with
  | true => exact .inl rfl
  | false => exact .inr h

theorem draw_trace : ∀ (ord : List Nat) (hist : List (Nat × Heap)) (pend : List (Nat × (Heap → Bool))) (s : St) (K : St → Option R) (r : R), drawS P gl n F ops pres ord hist pend s K = some r →
    ∃ (es : List Ent) (s' : St), K s' = some r ∧ es.map (·.i) = ord ∧ (∀ e ∈ es, EntOK P gl F ops n e) ∧ Tr (fun t => s.t.get .bad t) s.h es (fun t => s'.t.get .bad t) s'.h ∧ es.Pairwise (Chk P gl F ops pres) ∧
      (∀ e ∈ es, e.isRead P = true → ∀ q ∈ hist, preB pres q.1 e.i = true ∨ e.RD P gl F ops q.2) ∧ (∀ e ∈ es, e.isEff P = true → ∀ q ∈ pend, preB pres q.1 e.i = true ∨ q.2 e.h' = true)
  | [], hist, pend, s, K, r, h => ⟨[], s, h, rfl, fun _ h => (by cases h), .nil _ _, .nil, fun _ h => (by cases h), fun _ h => by cases h⟩
  | i :: ord, hist, pend, s, K, r, h => by
    have h' : (match nthL ops.toList i with
      | none => none
      | some o => guardK ops o s
        (fun s => (stepK P F.oracle o.op o.type (evR gl s.t (o.looksAt ops)) s.h pairK).bind fun p =>
          br (chkB P F pres i o (evR gl s.t (o.looksAt ops)) p.1 p.2 hist pend)
            (putK n s o.dst p.1 p.2 fun s' => drawS P gl n F ops pres ord (histB P i o s.h hist) (pendB P F i o (evR gl s.t (o.looksAt ops)) p.1 pend) s' K) none)
        (fun s => putK n s o.dst (.tuple []) s.h fun s' => drawS P gl n F ops pres ord hist pend s' K)) = some r := h
    cases ho : nthL ops.toList i with
    | none => rw [ho] at h'; cases h'
    | some o =>
      rw [ho] at h'
      simp only at h'
      rw [nthL_eq, Array.getElem?_toList] at ho
      obtain ⟨s1, ht, hh, hcase⟩ := guard_split h'
      rcases hcase with ⟨hw, h1⟩ | ⟨hw, h1⟩
      · obtain ⟨⟨v, H'⟩, hst, h2⟩ := bind_some h1
        simp only at h2
        obtain ⟨hchk, h3⟩ := br_some h2
        obtain ⟨s2, h4, hd, hu, hh2⟩ := put_split h3
        obtain ⟨es, s', g1, g2, g3, g4, g5, g6, g7⟩ := draw_trace ord _ _ s2 K r h4
        let e : Ent := ⟨i, o, s1.t, v, s1.h, H', true⟩
        have hok : EntOK P gl F ops n e := ⟨ho, hd, hw, fun q => (by cases q), fun _ => hst⟩
        have hcE : e.E gl ops = evR gl s1.t (o.looksAt ops) := rfl
        rw [hu, hh2] at g4
        have hfun : (fun t => s1.t.get .bad t) = fun t => s.t.get .bad t := funext ht
        rw [hfun] at g4
        refine ⟨e :: es, s', g1, by rw [List.map_cons, g2], ?_, .cons ht hh g4, .cons (fun f hf => ⟨fun hr he => ?_, fun he hr => ?_⟩) g5, ?_, ?_⟩
        · intro f hf
          rcases List.mem_cons.1 hf with rfl | hf
          · exact hok
          · exact g3 f hf
        · have hc := (isRead_cls hr).2
          have := g7 f hf he (i, rdB P F o (evR gl s1.t (o.looksAt ops)) v) (by unfold pendB; rw [show clsOf P o.op = .read from hc]; exact List.mem_cons_self)
          rcases this with q | q
          · exact .inl q
          · exact .inr (rdB_RD hc q)
        · have hc := (isEff_cls he).2
          have := g6 f hf hr (i, s1.h) (by unfold histB; rw [show clsOf P o.op = .eff from hc]; exact List.mem_cons_self)
          exact this
        · intro f hf hr q hq
          rcases List.mem_cons.1 hf with rfl | hf
          · have hc := (isRead_cls hr).2
            unfold chkB at hchk
            rw [show clsOf P o.op = .read from hc] at hchk
            rcases br_or (allL_mem hchk q hq) with q1 | q1
            · exact .inl q1
            · exact .inr (rdB_RD hc q1)
          · refine g6 f hf hr q ?_
            unfold histB
            split
            · exact List.mem_cons_of_mem _ hq
            · exact hq
        · intro f hf he q hq
          rcases List.mem_cons.1 hf with rfl | hf
          · have hc := (isEff_cls he).2
            unfold chkB at hchk
            rw [show clsOf P o.op = .eff from hc] at hchk
            exact br_or (allL_mem hchk q hq)
          · refine g7 f hf he q ?_
            unfold pendB
            split
            · exact List.mem_cons_of_mem _ hq
            · exact hq
      · obtain ⟨s2, h4, hd, hu, hh2⟩ := put_split h1
        obtain ⟨es, s', g1, g2, g3, g4, g5, g6, g7⟩ := draw_trace ord _ _ s2 K r h4
        let e : Ent := ⟨i, o, s1.t, .tuple [], s1.h, s1.h, false⟩
        have hok : EntOK P gl F ops n e := ⟨ho, hd, hw, fun _ => ⟨rfl, rfl⟩, fun q => by cases q⟩
        rw [hu, hh2] at g4
        have hfun : (fun t => s1.t.get .bad t) = fun t => s.t.get .bad t := funext ht
        rw [hfun] at g4
        refine ⟨e :: es, s', g1, by rw [List.map_cons, g2], ?_, .cons ht hh g4, .cons (fun f hf => ⟨fun hr => (by cases hr), fun he => (by cases he)⟩) g5, ?_, ?_⟩
        · intro f hf
          rcases List.mem_cons.1 hf with rfl | hf
          · exact hok
          · exact g3 f hf
        · intro f hf hr q hq
          rcases List.mem_cons.1 hf with rfl | hf
          · cases hr
          · exact g6 f hf hr q hq
        · intro f hf he q hq
          rcases List.mem_cons.1 hf with rfl | hf
          · cases he
          · exact g7 f hf he q hq
end
end Go.Ab
