/-
  Layer 12, part A: tables and edits; which may be.
-/
import Derived.Test.YtpipgcmiaccdkaaVarC
namespace Go.Proofs.Ytpipgcmiaccdkaa
open Sx Go
set_option maxRecDepth 100000
set_option linter.unusedSimpArgs false
set_option linter.unusedVariables false
set_option linter.unnecessarySimpa false
attribute [local simp] stepV condR boundsC appendG appendO copyV srcC guardB isCall opStep Opd.ev put readAt aBin aUn args0 V.celled V.ones V.one V.cells putAt bounds bound1 elemsOf srcOf appendV fillAt fillEl V.pures V.pure unwind evs ARes.ev mkRes V.ren V.renL O.ren eqCells eq1 aEq aMM hasTy hasTyN okTy mmGo Known HLe OLe VsLe.refl VLe.refl VLe.cap Stay VsLe V.frz V.frzL O.frz fr clearV rn KnownR Objs OLeO ObjsE nm back setAll ren_ite take_map_len List.take_of_length_le
attribute [local simp ↓] upd_app tl_cons tl_nil

abbrev Bs := List UInt8
theorem bless_irrefl : ∀ (s : Bs), Op.bytesLess s s = false
  | [] => rfl
  | x :: s => by simp [Op.bytesLess, bless_irrefl s]
theorem bless_trans : ∀ {a b c : Bs}, Op.bytesLess a b = true → Op.bytesLess b c = true → Op.bytesLess a c = true
  | [], _, [], _, h => by cases ‹List UInt8› <;> simp [Op.bytesLess] at h
  | [], _, _ :: _, _, _ => by simp [Op.bytesLess]
  | _ :: _, [], _, h, _ => by simp [Op.bytesLess] at h
  | _ :: _, _ :: _, [], _, h => by simp [Op.bytesLess] at h
  | x :: a, y :: b, z :: c, h1, h2 => by
    simp only [Op.bytesLess, Bool.or_eq_true, decide_eq_true_eq, Bool.and_eq_true, beq_iff_eq] at h1 h2 ⊢
    rcases h1 with h1 | ⟨rfl, h1⟩
    · rcases h2 with h2 | ⟨rfl, h2⟩
      · exact .inl (UInt8.lt_trans h1 h2)
      · exact .inl h1
    · rcases h2 with h2 | ⟨rfl, h2⟩
      · exact .inl h2
      · exact .inr ⟨rfl, bless_trans h1 h2⟩
theorem bless_ne {a b : Bs} (h : Op.bytesLess a b = true) : a ≠ b := by rintro rfl; rw [bless_irrefl] at h; cases h
theorem bless_asymm {a b : Bs} (h : Op.bytesLess a b = true) : Op.bytesLess b a = false := by
  cases hb : Op.bytesLess b a with
  | false => rfl
  | true => have := bless_trans h hb; rw [bless_irrefl] at this; cases this
theorem bless_total : ∀ (a b : Bs), a = b ∨ Op.bytesLess a b = true ∨ Op.bytesLess b a = true
  | [], [] => .inl rfl
  | [], _ :: _ => .inr (.inl (by simp [Op.bytesLess]))
  | _ :: _, [] => .inr (.inr (by simp [Op.bytesLess]))
  | x :: a, y :: b => by
    simp only [Op.bytesLess, Bool.or_eq_true, decide_eq_true_eq, Bool.and_eq_true, beq_iff_eq, List.cons.injEq]
    by_cases hxy : x = y
    · subst hxy
      rcases bless_total a b with h | h | h
      · exact .inl ⟨rfl, h⟩
      · exact .inr (.inl (.inr ⟨rfl, h⟩))
      · exact .inr (.inr (.inr ⟨rfl, h⟩))
    · have : x.toNat ≠ y.toNat := fun h => hxy (UInt8.toNat_inj.1 h)
      rcases Nat.lt_or_gt_of_ne this with h | h
      · exact .inr (.inl (.inl (UInt8.lt_iff_toNat_lt.2 h)))
      · exact .inr (.inr (.inl (UInt8.lt_iff_toNat_lt.2 h)))
theorem bless_le (a b : Bs) : (Op.bytesLess a b || decide (a = b)) = !Op.bytesLess b a := by
  rcases bless_total a b with h | h | h
  · subst h; simp [bless_irrefl]
  · simp [h, bless_asymm h]
  · simp [h, bless_asymm h, (bless_ne h).symm]
structure Tb where
  id : Int
  level : Int
  lo : Bs
  hi : Bs
  deriving DecidableEq
structure Ed where
  add : List Tb
  drop : List Int
  log : Int
  next : Int
  deriving DecidableEq
structure St where
  tabs : List Tb
  log : Int
  next : Int
  deriving DecidableEq
def encT (t : Tb) : List V := [.int .i64 t.id, .int .i64 t.level, .str t.lo, .str t.hi]
def encN (n : Int) : List V := [.int .i64 n]
def encE (e : Ed) : List V := [.vs (e.add.map encT) 4, .vs (e.drop.map encN) 1, .int .i64 e.log, .int .i64 e.next]
def encZ (s : St) : List V := [.vs (s.tabs.map encT) 4, .int .i64 s.log, .int .i64 s.next]
theorem encT_ren (ρ) (s : Tb) : V.renL ρ (encT s) = encT s := rfl
theorem encT_ones (s) : V.ones (encT s) = true := rfl
theorem encT_len (s) : (encT s).length = 4 := rfl
theorem encT_take (s) : (encT s).take 4 = encT s := rfl
theorem encN_ren (ρ) (s : Int) : V.renL ρ (encN s) = encN s := rfl
theorem encN_ones (s) : V.ones (encN s) = true := rfl
theorem encN_len (s) : (encN s).length = 1 := rfl
theorem encN_take (s) : (encN s).take 1 = encN s := rfl
theorem encE_ren (ρ) (s : Ed) : V.renL ρ (encE s) = encE s := rfl
theorem encE_len (s) : (encE s).length = 4 := rfl
theorem encE_take (s) : (encE s).take 4 = encE s := rfl
theorem encZ_ren (ρ) (s : St) : V.renL ρ (encZ s) = encZ s := rfl
theorem encZ_len (s) : (encZ s).length = 3 := rfl
theorem encZ_take (s) : (encZ s).take 3 = encZ s := rfl
attribute [local simp] encT_ren encT_ones encT_len encT_take encN_ren encN_ones encN_len encN_take

/-- may a text be a key -/
def keyB (s : Bs) : Bool := !decide (s = []) && decide (s.length ≤ 64)
def numB (n : Int) : Bool := !decide (n < 1) && !decide (1073741824 < n)
def tabB (t : Tb) : Bool := numB t.id && !decide (t.level < 0) && !decide (3 ≤ t.level) && keyB t.lo && keyB t.hi && !Op.bytesLess t.hi t.lo
def mayE (e : Ed) : Bool := !decide (128 < e.add.length) && !decide (128 < e.drop.length) && e.add.all tabB && e.drop.all numB && !decide (e.log < 0) && !decide (e.next < 0) && !decide (1073741824 < e.log) && !decide (1073741824 < e.next)

theorem skey_tri (s : Bs) : Tri Try.prog 45 [.str s] [] (fun v H => v = .bool (keyB s) ∧ H = []) := by
  refine Tri.of_run' Try.func45 rfl c45_ok (by simp [Try.ntmps45]) ?_
  by_cases h : s = []
  · (repeat (first | refine Run.adm rfl ?_ | refine Run.seq ?_ | (apply Run.opS rfl; (· (simp -implicitDefEqProofs [h]; exact ⟨rfl, rfl⟩))) | (apply Run.condS; (· (simp -implicitDefEqProofs [h]; exact rfl)))))
    refine Run.retI Try.func45 r45_ok trivial (by simp -implicitDefEqProofs [r45]; rfl) (by simp ) ?_ (by simp -implicitDefEqProofs ) (by simp -implicitDefEqProofs )
    simp [keyB, h]
  · by_cases h2 : s.length ≤ 64
    · have h2' : (s.length : Int) ≤ 64 := by omega
      (repeat (first | refine Run.adm rfl ?_ | refine Run.seq ?_ | (apply Run.opS rfl; (· (simp -implicitDefEqProofs [h, h2, h2']; exact ⟨rfl, rfl⟩))) | (apply Run.condS; (· (simp -implicitDefEqProofs [h, h2, h2']; exact rfl)))))
      refine Run.retI Try.func45 r45_ok trivial (by simp -implicitDefEqProofs [r45]; rfl) (by simp ) ?_ (by simp -implicitDefEqProofs ) (by simp -implicitDefEqProofs )
      simp [keyB, h, h2]
    · have h2' : ¬ (s.length : Int) ≤ 64 := by omega
      (repeat (first | refine Run.adm rfl ?_ | refine Run.seq ?_ | (apply Run.opS rfl; (· (simp -implicitDefEqProofs [h, h2, h2']; exact ⟨rfl, rfl⟩))) | (apply Run.condS; (· (simp -implicitDefEqProofs [h, h2, h2']; exact rfl)))))
      refine Run.retI Try.func45 r45_ok trivial (by simp -implicitDefEqProofs [r45]; rfl) (by simp ) ?_ (by simp -implicitDefEqProofs ) (by simp -implicitDefEqProofs )
      simp [keyB, h, h2]
theorem skey_at (s : Bs) (H : List O) : Tri Try.prog 45 [.str s] H (fun v H' => v = .bool (keyB s) ∧ H' = H) := (skey_tri s).at rfl rfl H
theorem xkey_tri (s : Bs) : Tri Try.prog 71 [.str s] [] (fun v H => v = .bool (keyB s) ∧ H = []) := by
  refine Tri.of_run' Try.func71 rfl c71_ok (by simp [Try.ntmps71]) ?_
  by_cases h : s = []
  · subst h
    (repeat (first | refine Run.adm rfl ?_ | refine Run.seq ?_ | (apply Run.opS rfl; (· (simp -implicitDefEqProofs; exact ⟨rfl, rfl⟩))) | (apply Run.condS; (· (simp -implicitDefEqProofs; exact rfl)))))
    refine Run.retI Try.func71 r71_ok trivial (by simp -implicitDefEqProofs [r71]; rfl) (by simp ) ?_ (by simp -implicitDefEqProofs ) (by simp -implicitDefEqProofs )
    simp [keyB]
  · have h1 : 1 ≤ s.length := by
      cases s with
      | nil => exact absurd rfl h
      | cons => simp
    have h1' : (1 : Int) ≤ s.length := by omega
    by_cases h2 : s.length ≤ 64
    · have h2' : (s.length : Int) ≤ 64 := by omega
      (repeat (first | refine Run.adm rfl ?_ | refine Run.seq ?_ | (apply Run.opS rfl; (· (simp -implicitDefEqProofs [h, h1, h1', h2, h2']; exact ⟨rfl, rfl⟩))) | (apply Run.condS; (· (simp -implicitDefEqProofs [h, h1, h1', h2, h2']; exact rfl)))))
      refine Run.retI Try.func71 r71_ok trivial (by simp -implicitDefEqProofs [r71]; rfl) (by simp ) ?_ (by simp -implicitDefEqProofs ) (by simp -implicitDefEqProofs )
      simp [keyB, h, h2]
    · have h2' : ¬ (s.length : Int) ≤ 64 := by omega
      (repeat (first | refine Run.adm rfl ?_ | refine Run.seq ?_ | (apply Run.opS rfl; (· (simp -implicitDefEqProofs [h, h1, h1', h2, h2']; exact ⟨rfl, rfl⟩))) | (apply Run.condS; (· (simp -implicitDefEqProofs [h, h1, h1', h2, h2']; exact rfl)))))
      refine Run.retI Try.func71 r71_ok trivial (by simp -implicitDefEqProofs [r71]; rfl) (by simp ) ?_ (by simp -implicitDefEqProofs ) (by simp -implicitDefEqProofs )
      simp [keyB, h, h2]
theorem xkey_at (s : Bs) (H : List O) : Tri Try.prog 71 [.str s] H (fun v H' => v = .bool (keyB s) ∧ H' = H) := (xkey_tri s).at rfl rfl H

theorem none_tri (n : Int) : Tri Try.prog 46 [.int .i64 n] [] (fun v H => v = .bool (!numB n) ∧ H = []) := by
  refine Tri.of_run' Try.func46 rfl c46_ok (by simp [Try.ntmps46]) ?_
  by_cases h : n < 1
  · (repeat (first | refine Run.adm rfl ?_ | refine Run.seq ?_ | (apply Run.opS rfl; (· (simp -implicitDefEqProofs [h]; exact ⟨rfl, rfl⟩))) | (apply Run.condS; (· (simp -implicitDefEqProofs [h]; exact rfl)))))
    refine Run.retI Try.func46 r46_ok trivial (by simp -implicitDefEqProofs [r46]; rfl) (by simp ) ?_ (by simp -implicitDefEqProofs ) (by simp -implicitDefEqProofs )
    simp [numB, h]
  · by_cases h2 : 1073741824 < n
    · (repeat (first | refine Run.adm rfl ?_ | refine Run.seq ?_ | (apply Run.opS rfl; (· (simp -implicitDefEqProofs [h, h2]; exact ⟨rfl, rfl⟩))) | (apply Run.condS; (· (simp -implicitDefEqProofs [h, h2]; exact rfl)))))
      refine Run.retI Try.func46 r46_ok trivial (by simp -implicitDefEqProofs [r46]; rfl) (by simp ) ?_ (by simp -implicitDefEqProofs ) (by simp -implicitDefEqProofs )
      simp [numB, h, h2]
    · (repeat (first | refine Run.adm rfl ?_ | refine Run.seq ?_ | (apply Run.opS rfl; (· (simp -implicitDefEqProofs [h, h2]; exact ⟨rfl, rfl⟩))) | (apply Run.condS; (· (simp -implicitDefEqProofs [h, h2]; exact rfl)))))
      refine Run.retI Try.func46 r46_ok trivial (by simp -implicitDefEqProofs [r46]; rfl) (by simp ) ?_ (by simp -implicitDefEqProofs ) (by simp -implicitDefEqProofs )
      simp [numB, h, h2]

theorem odd_tri (t : Tb) : Tri Try.prog 44 [.agg (encT t)] [] (fun v H => v = .bool (!tabB t) ∧ H = []) := by
  refine Tri.of_run' Try.func44 rfl c44_ok (by simp [Try.ntmps44]) ?_
  have hfin : ∀ {k t' h}, AtEnd k → t' 2 = .bool (!tabB t) → Run ⟨Try.prog, 44, Try.f44.ntmps, [], fun v H => v = .bool (!tabB t) ∧ H = []⟩ ⟨k, t', h⟩ := by
    intro k t' h hk h2
    refine Run.mv [] [(2, .bool (!tabB t))] [] (by rfl) (by decide) (by simp [h2]) (by simp) ?_
    exact Run.retI Try.func44 r44_ok hk (by simp [r44]; rfl) (by simp) (by simp) (by simp) (by simp)
  by_cases a1 : t.id < 1
  · (repeat (first | refine Run.adm rfl ?_ | refine Run.seq ?_ | (apply Run.opS rfl; (· (simp -implicitDefEqProofs [encT, a1]; exact ⟨rfl, rfl⟩))) | (apply Run.condS; (· (simp -implicitDefEqProofs [encT, a1]; exact rfl))))); exact hfin trivial (by simp [tabB, numB, a1])
  by_cases a2 : 1073741824 < t.id
  · (repeat (first | refine Run.adm rfl ?_ | refine Run.seq ?_ | (apply Run.opS rfl; (· (simp -implicitDefEqProofs [encT, a1, a2]; exact ⟨rfl, rfl⟩))) | (apply Run.condS; (· (simp -implicitDefEqProofs [encT, a1, a2]; exact rfl))))); exact hfin trivial (by simp [tabB, numB, a1, a2])
  by_cases a3 : t.level < 0
  · (repeat (first | refine Run.adm rfl ?_ | refine Run.seq ?_ | (apply Run.opS rfl; (· (simp -implicitDefEqProofs [encT, a1, a2, a3]; exact ⟨rfl, rfl⟩))) | (apply Run.condS; (· (simp -implicitDefEqProofs [encT, a1, a2, a3]; exact rfl))))); exact hfin trivial (by simp [tabB, numB, a1, a2, a3])
  by_cases a4 : 3 ≤ t.level
  · (repeat (first | refine Run.adm rfl ?_ | refine Run.seq ?_ | (apply Run.opS rfl; (· (simp -implicitDefEqProofs [encT, a1, a2, a3, a4]; exact ⟨rfl, rfl⟩))) | (apply Run.condS; (· (simp -implicitDefEqProofs [encT, a1, a2, a3, a4]; exact rfl))))); exact hfin trivial (by simp [tabB, numB, a1, a2, a3, a4])
  (repeat (first | refine Run.adm rfl ?_ | refine Run.seq ?_ | (apply Run.opS rfl; (· (simp -implicitDefEqProofs [encT, a1, a2, a3, a4]; exact ⟨rfl, rfl⟩))) | (apply Run.condS; (· (simp -implicitDefEqProofs [encT, a1, a2, a3, a4]; exact rfl)))))
  refine Run.opC rfl (by simp) rfl (skey_at t.lo _) ?_
  rintro v h' ⟨rfl, rfl⟩
  cases a5 : keyB t.lo with
  | false => (repeat (first | refine Run.adm rfl ?_ | refine Run.seq ?_ | (apply Run.opS rfl; (· (simp -implicitDefEqProofs [a5]; exact ⟨rfl, rfl⟩))) | (apply Run.condS; (· (simp -implicitDefEqProofs [a5]; exact rfl))))); exact hfin trivial (by simp [tabB, numB, a1, a2, a3, a4, a5])
  | true =>
  (repeat (first | refine Run.adm rfl ?_ | refine Run.seq ?_ | (apply Run.opS rfl; (· (simp -implicitDefEqProofs [a5]; exact ⟨rfl, rfl⟩))) | (apply Run.condS; (· (simp -implicitDefEqProofs [a5]; exact rfl)))))
  refine Run.opC rfl (by simp) rfl (skey_at t.hi _) ?_
  rintro v h' ⟨rfl, rfl⟩
  cases a6 : keyB t.hi with
  | false => (repeat (first | refine Run.adm rfl ?_ | refine Run.seq ?_ | (apply Run.opS rfl; (· (simp -implicitDefEqProofs [a6]; exact ⟨rfl, rfl⟩))) | (apply Run.condS; (· (simp -implicitDefEqProofs [a6]; exact rfl))))); exact hfin trivial (by simp [tabB, numB, a1, a2, a3, a4, a5, a6])
  | true =>
  (repeat (first | refine Run.adm rfl ?_ | refine Run.seq ?_ | (apply Run.opS rfl; (· (simp -implicitDefEqProofs [a6]; exact ⟨rfl, rfl⟩))) | (apply Run.condS; (· (simp -implicitDefEqProofs [a6]; exact rfl))))); exact hfin trivial (by simp [tabB, numB, a1, a2, a3, a4, a5, a6])

end Go.Proofs.Ytpipgcmiaccdkaa
