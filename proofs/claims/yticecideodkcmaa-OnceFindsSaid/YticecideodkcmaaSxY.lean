/-
  Sx, part Y: one operation at a time; what is known is told by a list of variables.
-/
import Derived.Test.YticecideodkcmaaSxX
namespace Sx
open Go
set_option linter.unusedSimpArgs false
set_option linter.unusedVariables false

theorem upd_app (t i v j) : upd t i v j = if j = i then v else t j := rfl

/-- variables that are known -/
def tl : List (Nat × V) → T
  | [], _ => .any
  | (i, v) :: l, j => if j = i then v else tl l j

theorem tl_cons (i v l j) : tl ((i, v) :: l) j = if j = i then v else tl l j := rfl
theorem tl_nil (j) : tl [] j = .any := rfl

section rules
variable {E : Env} {k : List AItem} {t : T} {h : List O}

theorem Run.opE {ls : List AOper} (he : ls = []) (hr : Run E ⟨k, t, h⟩) : Run E ⟨.ops ls :: k, t, h⟩ := by subst he; exact Run.step hr

theorem Run.opA {ls : List AOper} {d g o l v h'} (he : ls = ⟨d, g, o⟩ :: l) (hg : guardB t g = some true) (hs : opStep t h o = some (v, h')) (hr : Run E ⟨.ops l :: k, put t d v, h'⟩) : Run E ⟨.ops ls :: k, t, h⟩ := by
  subst he
  have hb : (opBr t h d o l k).ok E ⟨.ops (⟨d, g, o⟩ :: l) :: k, t, h⟩ := by
    unfold opBr; rw [hs]; exact hr
  cases g with
  | none => exact Run.step hb
  | some jw =>
    obtain ⟨j, want⟩ := jw
    simp only [guardB] at hg
    split at hg
    · rename_i b hb'
      refine Run.step ?_
      simp only [step1, hb']
      simp only [Option.some.injEq] at hg
      refine ⟨fun _ => ?_, fun hf => (by rw [hg] at hf; cases hf)⟩
      unfold opBr; rw [hs]; exact hr
    · cases hg
    · cases hg

theorem Run.op0 {ls : List AOper} {d o l v h'} (he : ls = ⟨d, none, o⟩ :: l) (hs : opStep t h o = some (v, h')) (hr : Run E ⟨.ops l :: k, put t d v, h'⟩) : Run E ⟨.ops ls :: k, t, h⟩ := Run.opA he rfl hs hr

theorem Run.opN {ls : List AOper} {d g o l} (he : ls = ⟨d, g, o⟩ :: l) (hg : guardB t g = some false) (hr : Run E ⟨.ops l :: k, put t d (.tup []), h⟩) : Run E ⟨.ops ls :: k, t, h⟩ := by
  subst he
  cases g with
  | none => simp [guardB] at hg
  | some jw =>
    obtain ⟨j, want⟩ := jw
    simp only [guardB] at hg
    split at hg
    · rename_i b hb'
      refine Run.step ?_
      simp only [step1, hb']
      simp only [Option.some.injEq] at hg
      exact ⟨fun hf => (by rw [hg] at hf; cases hf), fun _ => hr⟩
    · rename_i hb'
      refine Run.step ?_
      simp only [step1, hb']
      exact hr
    · cases hg

theorem Run.opC {ls : List AOper} {d g fo args l f caps Q} (he : ls = ⟨d, g, .call fo args⟩ :: l) (hg : guardB t g = some true) (hf : fo.ev t = .fn f caps) (htri : Tri E.P f (args.map (Opd.ev t) ++ caps) h Q)
    (hk : ∀ v h', Q v h' → Run E ⟨.ops l :: k, put t d v, h'⟩) : Run E ⟨.ops ls :: k, t, h⟩ := by
  subst he
  refine Run.call ?_ hf htri hk
  cases g with
  | none => trivial
  | some jw =>
    obtain ⟨j, want⟩ := jw
    simp only [guardB] at hg
    simp only [goes]
    split at hg
    · rename_i b hb'; rw [hb']; simp only [Option.some.injEq, beq_iff_eq] at hg; rw [hg]
    · cases hg
    · cases hg

theorem Run.reg {l} (hr : Run E ⟨.ops l :: k, t, h⟩) : Run E ⟨.code (.region l) :: k, t, h⟩ := Run.step hr
theorem Run.inL {c} (hr : Run E ⟨.code c :: .inLoop c :: k, t, h⟩) : Run E ⟨.inLoop c :: k, t, h⟩ := Run.inLoop hr

/-- from here on only this is known -/
def Known (n : Nat) (t : T) : List (Nat × V) → Prop
  | [] => True
  | (i, v) :: l => VLe (t i) v ∧ v.ren (fr n) = v ∧ Known n t l

theorem Known.at {n t} : ∀ {l}, Known n t l → ∀ i, tl l i = .any ∨ (VLe (t i) (tl l i) ∧ (tl l i).ren (fr n) = tl l i)
  | [], _, i => .inl rfl
  | (j, v) :: l, hk, i => by
    by_cases e : i = j
    · subst e; right; simp only [tl_cons, if_true]; exact ⟨hk.1, hk.2.1⟩
    · simp only [tl_cons, if_neg e]; exact Known.at hk.2.2 i

def Stay (n : Nat) : List O → Prop
  | [] => True
  | o :: l => o.ren (fr n) = o ∧ Stay n l
theorem Stay.mem {n} : ∀ {l}, Stay n l → ∀ o ∈ l, o.ren (fr n) = o
  | _ :: l, h, o, ho => by
    rcases List.mem_cons.1 ho with rfl | ho
    · exact h.1
    · exact Stay.mem h.2 o ho

theorem Run.ck (n : Nat) (slots : List (Nat × V)) (h' : List O) (hn : E.H0.length ≤ n) (hl : n ≤ h.length) (hs : Known n t slots) (hh : HLe (h.take n) h') (ho : Stay n h')
    (hr : Run E ⟨k, tl slots, h'⟩) : Run E ⟨k, t, h⟩ := by
  have h1 : Run E ⟨k, fun i => tl slots i, h' ++ h.drop n⟩ := by
    refine Run.weaken (fr n) (tl slots) h' ⟨by rw [← hh.len]; simp; omega, fun i hi => by simp [fr]; omega, fun i j hij => ?_, fun i o hi hlive => ?_, fun i i' j h1 h2 => ?_⟩ (fun i => ?_) hr
    · rw [← hh.len]; unfold fr at hij; split at hij <;> simp at hij; simp; omega
    · have hlt : i < n := by have := (List.getElem?_eq_some_iff.1 hi).1; rw [← hh.len] at this; simp at this; omega
      refine ⟨i, by simp [fr, hlt], ?_⟩
      rw [ho.mem o (List.mem_of_getElem? hi), List.getElem?_append_left (by have := (List.getElem?_eq_some_iff.1 hi).1; exact this)]
      exact hi
    · unfold fr at h1 h2; split at h1 <;> split at h2 <;> simp at h1 h2; omega
    · rcases hs.at i with h2 | ⟨_, h2⟩
      · exact .inl h2
      · exact .inr h2.symm
  refine Run.le (t' := fun i => tl slots i) (fun i => ?_) ?_ h1
  · rcases hs.at i with h2 | ⟨h2, _⟩
    · rw [h2]; exact VLe.any _
    · exact h2
  · have happ : ∀ {a b c : List O}, HLe a b → HLe (a ++ c) (b ++ c) := by
      intro a
      induction a with
      | nil => intro b c hab; cases b with
        | nil => exact HLe.refl c
        | cons => exact hab.elim
      | cons x a ih => intro b c hab; cases b with
        | nil => exact hab.elim
        | cons y b => exact ⟨hab.1, ih hab.2⟩
    simpa using happ (c := h.drop n) hh

/-- what is still to come stands behind one state -/
theorem Run.join {x : AItem} (slots : List (Nat × V)) (h' : List O) (h2 : Run E ⟨k, tl slots, h'⟩) (h1 : ∀ k, Run E ⟨k, tl slots, h'⟩ → Run E ⟨x :: k, t, h⟩) : Run E ⟨x :: k, t, h⟩ := h1 k h2

theorem Run.loopS {α : Type} {body} (st : α → List (Nat × V) × List O) (inv : α → Prop) (m : α → Nat)
    (round : ∀ a, inv a → (∀ a', inv a' → m a' < m a → Run E ⟨.inLoop body :: k, tl (st a').1, (st a').2⟩) → Run E ⟨.code body :: .inLoop body :: k, tl (st a).1, (st a).2⟩)
    (a : α) (ha : inv a) : Run E ⟨.code (.loop body) :: k, tl (st a).1, (st a).2⟩ := by
  refine Run.loop (fun n t h => ∃ a, inv a ∧ m a = n ∧ t = tl (st a).1 ∧ h = (st a).2) ?_ (n := m a) ⟨a, ha, rfl, rfl, rfl⟩
  rintro n t h ⟨a, ha, rfl, rfl, rfl⟩ ih
  exact round a ha fun a' ha' hm => ih (m a') _ _ hm ⟨a', ha', rfl, rfl, rfl⟩
end rules

/-! ### the same for regions of open order -/
section quiet
variable {P : Program} {t : T} {h : List O} {K : T → List O → Prop}
theorem execQ_E {ls : List AOper} (he : ls = []) (hk : K t h) : execQ P ls t h K := by subst he; exact hk
theorem execQ_A {ls : List AOper} {d g o l v h'} (he : ls = ⟨d, g, o⟩ :: l) (hg : guardB t g = some true) (hc : isCall o = false) (hs : opStep t h o = some (v, h')) (hr : execQ P l (put t d v) h' K) : execQ P ls t h K := by
  subst he; simp only [execQ, hg, hc, hs]; simpa using hr
theorem execQ_0 {ls : List AOper} {d o l v h'} (he : ls = ⟨d, none, o⟩ :: l) (hc : isCall o = false) (hs : opStep t h o = some (v, h')) (hr : execQ P l (put t d v) h' K) : execQ P ls t h K := execQ_A he rfl hc hs hr
theorem execQ_N {ls : List AOper} {d g o l} (he : ls = ⟨d, g, o⟩ :: l) (hg : guardB t g = some false) (hr : execQ P l (put t d (.tup [])) h K) : execQ P ls t h K := by
  subst he; simp only [execQ, hg]; exact hr
theorem execQ_C {ls : List AOper} {d g fo args l f caps v0} (he : ls = ⟨d, g, .call fo args⟩ :: l) (hg : guardB t g = some true) (hf : fo.ev t = .fn f caps) (htri : Tri P f (args.map (Opd.ev t) ++ caps) h (fun v H => v = v0 ∧ H = h))
    (hk : execQ P l (put t d v0) h K) : execQ P ls t h K := by
  subst he
  simp only [execQ, hg, isCall, if_true]
  exact ⟨v0, ⟨fo, args, f, caps, _, rfl, hf, htri, fun _ _ h => h⟩, hk⟩
/-- one state behind the region -/
theorem Run.quietS {E : Env} (hm : E.P.follows .mixedOrders = true) {L : DL} {k} (hq : quietOk L = true) (n : Nat) (slots : List (Nat × V)) (h' : List O)
    (hr : execQ E.P (L.map (·.1)) t h (fun t h => E.H0.length ≤ n ∧ n ≤ h.length ∧ Known n t slots ∧ HLe (h.take n) h' ∧ Stay n h')) (hk : Run E ⟨k, tl slots, h'⟩) : Run E ⟨.code (.drawn L) :: k, t, h⟩ :=
  Run.quiet hm hq (execQ_mono (fun _ _ ⟨h1, h2, h3, h4, h5⟩ => Run.ck n slots h' h1 h2 h3 h4 h5 hk) hr)
end quiet

end Sx
