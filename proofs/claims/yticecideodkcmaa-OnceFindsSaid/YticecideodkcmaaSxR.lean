/-
  Sx, part R: the rules as a proof uses them.
-/
import Derived.Test.YticecideodkcmaaSxQ
namespace Sx
open Go
set_option linter.unusedSimpArgs false
set_option linter.unusedVariables false

inductive Res where
  | done (t : T) (h : List O)
  | call (o : AOper) (rest : List AOper) (t : T) (h : List O)
  | stuck (o : AOper) (t : T) (h : List O)

def guardB (t : T) : Option (Nat × Bool) → Option Bool
  | none => some true
  | some (j, want) => match t j with
    | .bool v => some (v == want)
    | .tup [] => some false
    | _ => none

def isCall : AOp → Bool
  | .call .. => true
  | _ => false

def execOps : List AOper → T → List O → Res
  | [], t, h => .done t h
  | ⟨d, g, o⟩ :: l, t, h => match guardB t g with
    | some true => if isCall o = true then .call ⟨d, g, o⟩ l t h else (match opStep t h o with
      | some (v, h') => execOps l (put t d v) h'
      | none => .stuck ⟨d, g, o⟩ t h)
    | some false => execOps l (put t d (.tup [])) h
    | none => .stuck ⟨d, g, o⟩ t h

def Res.run (E : Env) (k : List AItem) : Res → Prop
  | .done t h => Run E ⟨k, t, h⟩
  | .call o rest t h => Run E ⟨.ops (o :: rest) :: k, t, h⟩
  | .stuck .. => False

theorem Run.ops {E : Env} {k : List AItem} : ∀ {l : List AOper} {t h}, (execOps l t h).run E k → Run E ⟨.ops l :: k, t, h⟩
  | [], t, h, hr => Run.step hr
  | ⟨d, g, o⟩ :: l, t, h, hr => by
    have go : ∀ v h', opStep t h o = some (v, h') → (execOps l (put t d v) h').run E k → (opBr t h d o l k).ok E ⟨.ops (⟨d, g, o⟩ :: l) :: k, t, h⟩ := by
      intro v h' hs hr
      unfold opBr
      rw [hs]
      exact Run.ops hr
    simp only [execOps] at hr
    cases g with
    | none =>
      simp only [guardB] at hr
      by_cases hc : isCall o = true
      · rw [if_pos hc] at hr; exact hr
      · rw [if_neg hc] at hr
        cases hs : opStep t h o with
        | none => rw [hs] at hr; exact hr.elim
        | some vh => obtain ⟨v, h'⟩ := vh; rw [hs] at hr; exact Run.step (go v h' hs hr)
    | some jw =>
      obtain ⟨j, want⟩ := jw
      cases ht : t j with
      | bool v =>
        simp only [guardB, ht] at hr
        by_cases hvw : (v == want) = true
        · rw [hvw] at hr
          simp only at hr
          by_cases hc : isCall o = true
          · rw [if_pos hc] at hr; exact hr
          · rw [if_neg hc] at hr
            cases hs : opStep t h o with
            | none => rw [hs] at hr; exact hr.elim
            | some vh =>
              obtain ⟨u, h'⟩ := vh
              rw [hs] at hr
              refine Run.step ?_
              simp only [step1, ht]
              refine ⟨fun _ => ?_, fun hf => (by rw [hvw] at hf; cases hf)⟩
              unfold opBr
              rw [hs]
              exact Run.ops hr
        · have hvw' : (v == want) = false := by simpa using hvw
          rw [hvw'] at hr
          simp only at hr
          refine Run.step ?_
          simp only [step1, ht]
          exact ⟨fun hf => (by rw [hvw'] at hf; cases hf), fun _ => Run.ops hr⟩
      | tup vs =>
        cases vs with
        | nil =>
          simp only [guardB, ht] at hr
          refine Run.step ?_
          simp only [step1, ht]
          exact Run.ops hr
        | cons x xs => simp [guardB, ht, Res.run] at hr
      | _ => simp [guardB, ht, Res.run] at hr

section rules
variable {E : Env} {k : List AItem} {t : T} {h : List O}
theorem Run.region {l} (hr : (execOps l t h).run E k) : Run E ⟨.code (.region l) :: k, t, h⟩ := Run.step (Run.ops hr)
theorem Run.skip (hr : Run E ⟨k, t, h⟩) : Run E ⟨.code .skip :: k, t, h⟩ := Run.step hr
theorem Run.seq {a b} (hr : Run E ⟨.code a :: .code b :: k, t, h⟩) : Run E ⟨.code (.seq a b) :: k, t, h⟩ := Run.step hr
theorem Run.block {id c} (hr : Run E ⟨.code c :: .endB id :: k, t, h⟩) : Run E ⟨.code (.block id c) :: k, t, h⟩ := Run.step hr
theorem Run.endB {id} (hr : Run E ⟨k, t, h⟩) : Run E ⟨.endB id :: k, t, h⟩ := Run.step hr
theorem Run.exit {id k'} (hu : unwind id k = some k') (hr : Run E ⟨k', t, h⟩) : Run E ⟨.code (.exit id) :: k, t, h⟩ := by
  refine Run.step ?_
  simp only [step1, hu]
  exact hr
theorem Run.cond {o a b v} (hv : o.ev t = .bool v) (h1 : v = true → Run E ⟨.code a :: k, t, h⟩) (h2 : v = false → Run E ⟨.code b :: k, t, h⟩) : Run E ⟨.code (.cond o a b) :: k, t, h⟩ := by
  refine Run.step ?_
  simp only [step1, hv]
  exact ⟨h1, h2⟩
theorem Run.condT {o a b} (hv : o.ev t = .bool true) (h1 : Run E ⟨.code a :: k, t, h⟩) : Run E ⟨.code (.cond o a b) :: k, t, h⟩ := Run.cond hv (fun _ => h1) (fun h => by cases h)
theorem Run.condF {o a b} (hv : o.ev t = .bool false) (h1 : Run E ⟨.code b :: k, t, h⟩) : Run E ⟨.code (.cond o a b) :: k, t, h⟩ := Run.cond hv (fun h => by cases h) (fun _ => h1)
end rules

/-- all that a piece can come to -/
def Res.all (S : T → List O → Prop) : Res → Prop
  | .done t h => S t h
  | _ => False

theorem Res.cut {E : Env} {k : List AItem} {r : Res} (S : T → List O → Prop) (h1 : r.all S) (h2 : ∀ t h, S t h → Run E ⟨k, t, h⟩) : r.run E k := by
  cases r with
  | done t h => exact h2 t h h1
  | call o rest t h => exact h1.elim
  | stuck o t h => exact h1.elim

/-- returning what names no object that was made, the old objects as they are now -/
theorem Names.front {n : Nat} {h : List O} (hn : n ≤ h.length) (hp : ∀ o ∈ h.take n, o.ren (fun i => if i < n then some i else none) = o) : Names n (fun i => if i < n then some i else none) h (h.take n) := by
  refine ⟨by simp; omega, fun i hi => by simp [hi], fun i j hij => ?_, fun i o ho hl => ?_, fun i i' j h1 h2 => ?_⟩
  · by_cases hi : i < n
    · simp; omega
    · simp [hi] at hij
  · have hi : i < n := by have := (List.getElem?_eq_some_iff.1 ho).1; simp at this; omega
    refine ⟨i, by simp [hi], ?_⟩
    have hm := List.mem_of_getElem? ho
    rw [hp o hm]
    rwa [List.getElem?_take, if_pos hi] at ho
  · by_cases hi : i < n <;> by_cases hi' : i' < n <;> simp [hi, hi'] at h1 h2
    omega

/-- returning with nothing made and nothing held -/
theorem Run.ret0 {E : Env} (hH : E.H0 = []) {fn : Func} (hf : E.P.funcs[E.f]? = some fn) {ars} (hr : fn.results.toList.mapM (cRes E.P E.N) = some ars) {k t h} (hk : AtEnd k) {vs} (hv : evs t h ars = some vs)
    (hp : E.Post (mkRes vs) []) (hpure : (mkRes vs).ren (fun _ => none) = mkRes vs) : Run E ⟨k, t, h⟩ :=
  Run.ret hf hr hk hv (fun _ => none) (h' := []) ⟨by simp [hH], (fun i hi => by simp [hH] at hi), (fun i j h => by cases h), (fun i o h => by simp at h), (fun i i' j h => by cases h)⟩ hpure.symm hp

/-- a contract of a function that holds no object and makes none that is kept, wherever it is called -/
theorem Tri.any {P : Program} {f : FuncId} {as : List V} {Post : V → Prop} (h : Tri P f as [] (fun v H => Post v ∧ H = [])) (hp : ∀ v ρ, Post v → v.ren ρ = v) (ha : ∀ ρ, V.renL ρ as = as) (H : List O) :
    Tri P f as H (fun v H' => Post v ∧ H' = H) := by
  have := h.frame [] H rfl List.nodup_nil (fun i o h => by simp at h) (fun i hi => by simp at hi)
  rw [ha] at this
  refine this.mono ?_
  rintro v H' ⟨v0, Hs', ⟨h1, rfl⟩, rfl, rfl⟩
  rw [hp _ _ h1]
  exact ⟨h1, by cases H <;> simp [back, setAll]⟩

end Sx
