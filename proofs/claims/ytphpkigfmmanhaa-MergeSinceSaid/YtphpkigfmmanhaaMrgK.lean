/-
  Layer 11, part K: Since is the document's (plain).
-/
import Derived.Test.YtphpkigfmmanhaaMrgJ
namespace Go.Proofs.Ytphpkigfmmanhaa
open Sx Go
set_option maxRecDepth 100000
set_option linter.unusedSimpArgs false
set_option linter.unusedVariables false
set_option linter.unnecessarySimpa false

def behB (p : Option En) (x : En) : Bool := match p with | none => true | some q => decide (q.key ≠ x.key)
/-- what begins a key, behind an entry -/
def begGo (f : En → Bool) : Option En → List En → List En
  | _, [] => []
  | p, x :: r => (if behB p x && f x then [x] else []) ++ begGo f (some x) r

theorem sinF_go (l : List En) (n : Int) : ∀ (k i : Nat), i + k = l.length → (List.range' i k).filterMap (sinF l n) = begGo (fun x => decide (n < x.seq)) (prevE l i) (l.drop i)
  | 0, i, h => by rw [List.drop_eq_nil_of_le (by omega)]; rfl
  | k + 1, i, h => by
    have hlt : i < l.length := by omega
    obtain ⟨x, hx, -, hdrop, -⟩ := getL hlt
    have ih := sinF_go l n k (i + 1) (by omega)
    have hp : prevE l (i + 1) = some x := by simp [prevE, hx]
    rw [hp] at ih
    rw [List.range'_succ, hdrop, List.filterMap_cons, ih]
    have hb0 : begK l i x = behB (prevE l i) x := rfl
    simp only [sinF, hx, hb0, begGo]
    cases behB (prevE l i) x <;> by_cases hn : n < x.seq <;> simp [hn]

theorem sinR_go (l : List En) (n : Int) (h : checkE l = true) : sinR l n = begGo (fun x => decide (n < x.seq)) none l := by
  have := sinF_go l n l.length 0 (by simp)
  rw [sinR, if_pos h, List.range_eq_range', this]; rfl

/-- a key's entries behind one of it begin nothing -/
theorem begGo_run (f : En → Bool) (key : Bs) : ∀ (r : List En) (q : En), q.key = key → begGo f (some q) r = (match r.dropWhile (fun e => decide (e.key = key)) with | [] => [] | y :: s => (if f y then [y] else []) ++ begGo f (some y) s)
  | [], q, hq => rfl
  | x :: r, q, hq => by
    by_cases hk : x.key = key
    · have := begGo_run f key r x hk
      rw [begGo, this]; simp [behB, hq, hk]
    · have : ¬ q.key = x.key := by rw [hq]; exact fun h => hk h.symm
      rw [begGo]; simp [behB, hk, this]

theorem run_take (x : En) (r : List En) : (x :: r).take (runN x r) = x :: r.takeWhile (fun e => decide (e.key = x.key)) := by
  unfold runN
  rw [Nat.add_comm, List.take_succ_cons]
  congr 1
  have h := List.takeWhile_append_dropWhile (p := fun e : En => decide (e.key = x.key)) (l := r)
  generalize r.takeWhile (fun e => decide (e.key = x.key)) = a at *
  conv => lhs; rw [← h]
  simp
theorem run_drop (x : En) (r : List En) : (x :: r).drop (runN x r) = r.dropWhile (fun e => decide (e.key = x.key)) := by
  unfold runN
  rw [Nat.add_comm, List.drop_succ_cons]
  have h := List.takeWhile_append_dropWhile (p := fun e : En => decide (e.key = x.key)) (l := r)
  generalize r.takeWhile (fun e => decide (e.key = x.key)) = a at *
  conv => lhs; rw [← h]
  simp

theorem grp_beg (n : Int) : ∀ (m : Nat) (l : List En), l.length ≤ m → grpGo (sinGl · n) l = (match l with | [] => [] | x :: r => sinG x n ++ begGo (fun x => decide (n < x.seq)) (some x) r)
  | m, [], _ => by rw [grpGo]
  | 0, x :: r, h => by simp at h
  | m + 1, x :: r, h => by
    show _ = sinG x n ++ begGo _ (some x) r
    rw [grpGo, run_take, run_drop, begGo_run _ x.key r x rfl]
    have hd : (r.dropWhile (fun e => decide (e.key = x.key))).length ≤ m := by
      have := (List.dropWhile_suffix (p := fun e : En => decide (e.key = x.key)) (l := r)).length_le
      simp only [List.length_cons] at h; omega
    rw [grp_beg n m _ hd]
    cases r.dropWhile (fun e => decide (e.key = x.key)) with
    | nil => simp [sinGl]
    | cons y s => simp [sinGl, sinG]

theorem sin_eq (l : List En) (n : Int) : sinM l n = sinR l n := by
  cases hc : checkE l with
  | false => simp [sinM, sinR, hc]
  | true =>
    rw [sinR_go l n hc, sinM, if_pos hc, grp_beg n l.length l (Nat.le_refl _)]
    cases l with
    | nil => rfl
    | cons x r => simp [begGo, behB, sinG]

end Go.Proofs.Ytphpkigfmmanhaa
