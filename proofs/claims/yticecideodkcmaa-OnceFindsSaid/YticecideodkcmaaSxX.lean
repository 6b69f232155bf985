/-
  Sx, part X: keeping the first objects and some variables; rows of records.
-/
import Derived.Test.YticecideodkcmaaSxW
namespace Sx
open Go
set_option linter.unusedSimpArgs false
set_option linter.unusedVariables false

mutual
theorem V.ren_pure (ρ) : ∀ v : V, v.pure = true → v.ren ρ = v
  | .fn f cap, h => by simp only [V.ren]; rw [V.renL_pure ρ cap (by simpa [V.pure] using h)]
  | .agg l, h => by simp only [V.ren]; rw [V.renL_pure ρ l (by simpa [V.pure] using h)]
  | .tup l, h => by simp only [V.ren]; rw [V.renL_pure ρ l (by simpa [V.pure] using h)]
  | .bool _, _ | .int .., _ | .str _, _ | .nilp, _ | .nils, _ | .nilf, _ | .nilm, _ | .zs, _ | .rptr .., _ | .vs .., _ | .any, _ | .bad, _ => rfl
  | .ptr .., h | .eptr .., h | .sl .., h | .mp _, h => by simp [V.pure] at h
theorem V.renL_pure (ρ) : ∀ l : List V, V.pures l = true → V.renL ρ l = l
  | [], _ => rfl
  | v :: l, h => by
    simp only [V.pures, Bool.and_eq_true] at h
    simp only [V.renL]; rw [V.ren_pure ρ v h.1, V.renL_pure ρ l h.2]
end

/-- a contract that tells one value, wherever it is called -/
theorem Tri.at {P : Program} {f : FuncId} {as : List V} {v0 : V} (h : Tri P f as [] (fun v H => v = v0 ∧ H = [])) (hp : v0.pure = true) (ha : V.pures as = true) (H : List O) :
    Tri P f as H (fun v H' => v = v0 ∧ H' = H) :=
  Tri.any (Post := fun v => v = v0) h (by rintro v ρ rfl; exact V.ren_pure ρ _ hp) (fun ρ => V.renL_pure ρ _ ha) H

def fr (n : Nat) (i : Nat) : Option Nat := if i < n then some i else none

/-- only the first objects, only some variables -/
theorem Run.keep {E : Env} {k t h} (n : Nat) (vars : List Nat) (hn : E.H0.length ≤ n) (hl : n ≤ h.length) (hv : ∀ i ∈ vars, (t i).ren (fr n) = t i) (ho : ∀ o ∈ h.take n, o.ren (fr n) = o)
    (hr : Run E ⟨k, fun i => if i ∈ vars then t i else .any, h.take n⟩) : Run E ⟨k, t, h⟩ := by
  have hf := Names.front (n := n) (h := h) hl ho
  have hnames : Names E.H0.length (fr n) h (h.take n) := ⟨by simp; omega, fun i hi => hf.keep i (by omega), hf.dom, hf.obj, hf.inj⟩
  refine Run.weaken (fr n) _ (h.take n) hnames (fun i => ?_) hr
  by_cases hi : i ∈ vars
  · right; simp only [hi, if_true]; exact (hv i hi).symm
  · left; simp [hi]

/-- returning what names none of the objects that were made -/
theorem Run.retH {E : Env} {fn : Func} {k t h} (hf : E.P.funcs[E.f]? = some fn) {ars} (hr : fn.results.toList.mapM (cRes E.P E.N) = some ars) (hk : AtEnd k) {vs} (hv : evs t h ars = some vs)
    (hl : E.H0.length ≤ h.length) (ho : ∀ o ∈ h.take E.H0.length, o.ren (fr E.H0.length) = o) (hp : E.Post (mkRes vs) (h.take E.H0.length)) (hpure : (mkRes vs).ren (fr E.H0.length) = mkRes vs) : Run E ⟨k, t, h⟩ :=
  Run.ret hf hr hk hv (fr E.H0.length) (Names.front hl ho) hpure.symm hp

theorem execQ_split {P : Program} {K : T → List O → Prop} : ∀ (n : Nat) {l : List AOper} {t h}, execQ P (l.take n) t h (fun t h => execQ P (l.drop n) t h K) → execQ P l t h K
  | 0, _, _, _, h => h
  | n + 1, [], _, _, h => h
  | n + 1, ⟨d, g, o⟩ :: l, t, h, hq => by
    simp only [List.take_succ_cons, List.drop_succ_cons, execQ] at hq ⊢
    revert hq
    split
    · split
      · exact fun ⟨v, h1, h2⟩ => ⟨v, h1, execQ_split n h2⟩
      · split
        · exact fun hq => execQ_split n hq
        · exact fun h => h
    · exact fun hq => execQ_split n hq
    · exact fun h => h

/-- the call that comes after so many -/
theorem execQ_call {P : Program} {K K1 : T → List O → Prop} (n : Nat) {l : List AOper} {d g fo args} (hl : l[n]? = some ⟨d, g, .call fo args⟩) {t h} (h1 : execQ P (l.take n) t h K1)
    (h2 : ∀ t h, K1 t h → guardB t g = some true ∧ ∃ f caps v0, fo.ev t = .fn f caps ∧ Tri P f (args.map (Opd.ev t) ++ caps) h (fun v H => v = v0 ∧ H = h) ∧ execQ P (l.drop (n + 1)) (put t d v0) h K) : execQ P l t h K := by
  refine execQ_split n (execQ_mono (fun t h hk => ?_) h1)
  obtain ⟨hn, hnl⟩ := List.getElem?_eq_some_iff.1 hl
  rw [List.drop_eq_getElem_cons hn, hnl]
  obtain ⟨hg, f, caps, v0, h3, h4, h5⟩ := h2 t h hk
  simp only [execQ, hg, isCall, if_true]
  exact ⟨v0, ⟨fo, args, f, caps, _, rfl, h3, h4, fun _ _ h => h⟩, h5⟩

/-! ### rows -/

variable {α : Type} {f : α → List V} {w : Nat}

theorem rows_len (hw : ∀ x, (f x).length = w) : ∀ l : List α, (l.flatMap f).length = l.length * w
  | [] => by simp
  | x :: l => by simp only [List.flatMap_cons, List.length_append, hw, rows_len hw l, List.length_cons, Nat.add_mul]; omega

theorem rows_drop (hw : ∀ x, (f x).length = w) : ∀ (l : List α) (i : Nat), (l.flatMap f).drop (i * w) = (l.drop i).flatMap f
  | l, 0 => by simp
  | [], i + 1 => by simp
  | x :: l, i + 1 => by
    simp only [List.flatMap_cons, List.drop_succ_cons]
    rw [← rows_drop hw l i, List.drop_append, hw, List.drop_eq_nil_of_le (by rw [hw, Nat.add_mul]; omega), List.nil_append]
    congr 1; rw [Nat.add_mul]; omega

theorem rows_take (hw : ∀ x, (f x).length = w) : ∀ (l : List α) (i : Nat), (l.flatMap f).take (i * w) = (l.take i).flatMap f
  | l, 0 => by simp
  | [], i + 1 => by simp
  | x :: l, i + 1 => by
    simp only [List.flatMap_cons, List.take_succ_cons]
    rw [← rows_take hw l i, List.take_append, hw, List.take_of_length_le (by rw [hw, Nat.add_mul]; omega)]
    congr 2; rw [Nat.add_mul]; omega

theorem rows_get (hw : ∀ x, (f x).length = w) {l : List α} {i : Nat} {x : α} (hx : l[i]? = some x) {j : Nat} (hj : j < w) : (l.flatMap f)[i * w + j]? = (f x)[j]? := by
  rw [← List.getElem?_drop, rows_drop hw]
  obtain ⟨hi, rfl⟩ := List.getElem?_eq_some_iff.1 hx
  rw [List.drop_eq_getElem_cons hi, List.flatMap_cons, List.getElem?_append_left (by rw [hw]; exact hj)]

theorem rows_read (hw : ∀ x, (f x).length = w) {l : List α} {i : Nat} {x : α} (hx : l[i]? = some x) {j : Nat} {k : Option Nat} (hj : j + k.getD 1 ≤ w) : readAt (l.flatMap f) (i * w + j) k = readAt (f x) j k := by
  obtain ⟨hi, rfl⟩ := List.getElem?_eq_some_iff.1 hx
  cases k with
  | none => exact rows_get hw hx (by simp only [Option.getD_none] at hj; omega)
  | some k =>
    simp only [Option.getD_some] at hj
    simp only [readAt, rows_len hw, hw]
    have h1 : i * w + w ≤ l.length * w := by
      have := Nat.mul_le_mul_right w (show i + 1 ≤ l.length from hi)
      rwa [Nat.add_mul, Nat.one_mul] at this
    rw [if_pos (by omega), if_pos hj]
    congr 2
    rw [← List.drop_drop, rows_drop hw, List.drop_eq_getElem_cons hi, List.flatMap_cons]
    rw [List.drop_append_of_le_length (by rw [hw]; omega), List.take_append_of_le_length (by simp [hw]; omega)]

theorem putAt_len {cs : List V} {off : Nat} {vs : List V} (h : off + vs.length ≤ cs.length) : (putAt cs off vs).length = cs.length := by
  simp [putAt]; omega

theorem rows_put (hw : ∀ x, (f x).length = w) {l : List α} {i : Nat} {x y : α} (hx : l[i]? = some x) {j : Nat} {vs : List V} (hj : j + vs.length ≤ w) (hy : f y = putAt (f x) j vs) : putAt (l.flatMap f) (i * w + j) vs = (l.set i y).flatMap f := by
  obtain ⟨hi, rfl⟩ := List.getElem?_eq_some_iff.1 hx
  have h1 : l.set i y = l.take i ++ y :: l.drop (i + 1) := by rw [List.set_eq_take_append_cons_drop, if_pos hi]
  rw [h1, List.flatMap_append, List.flatMap_cons, hy]
  simp only [putAt]
  have h2 : (l.flatMap f).take (i * w + j) = (l.take i).flatMap f ++ (f l[i]).take j := by
    rw [List.take_add, rows_take hw, rows_drop hw, List.drop_eq_getElem_cons hi, List.flatMap_cons, List.take_append_of_le_length (by rw [hw]; omega)]
  have h3 : (l.flatMap f).drop (i * w + j + vs.length) = (f l[i]).drop (j + vs.length) ++ (l.drop (i + 1)).flatMap f := by
    rw [Nat.add_assoc, ← List.drop_drop, rows_drop hw, List.drop_eq_getElem_cons hi, List.flatMap_cons, List.drop_append_of_le_length (by rw [hw]; omega)]
  rw [h2, h3]
  simp only [List.append_assoc]

end Sx
