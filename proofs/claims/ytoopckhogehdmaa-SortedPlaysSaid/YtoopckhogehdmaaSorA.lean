/-
  Layer 07, part A: how texts stand.
-/
import Derived.Test.YtoopckhogehdmaaBase
namespace Go.Proofs.Ytoopckhogehdmaa
open Sx Go
set_option maxRecDepth 100000
set_option linter.unusedSimpArgs false
set_option linter.unusedVariables false
set_option linter.unnecessarySimpa false
attribute [local simp] boundsC appendG appendO copyV srcC guardB isCall opStep Opd.ev put readAt aBin aUn args0 V.celled V.ones V.one V.cells putAt bounds bound1 elemsOf srcOf appendV fillAt fillEl V.pures V.pure unwind evs ARes.ev mkRes V.ren V.renL O.ren eqCells eq1 aEq aMM hasTy hasTyN okTy mmGo Known HLe OLe VsLe.refl VLe.refl VLe.cap Stay VsLe V.frz V.frzL O.frz fr clearV rn KnownR Objs OLeO ObjsE nm back setAll ren_ite take_map_len List.take_of_length_le
attribute [local simp ↓] upd_app tl_cons tl_nil

abbrev Bs := List UInt8
theorem bless_irrefl : ∀ (s : Bs), Op.bytesLess s s = false
  | [] => rfl
  | x :: s => by simp [Op.bytesLess, bless_irrefl s]
theorem bless_trans : ∀ {a b c : Bs}, Op.bytesLess a b = true → Op.bytesLess b c = true → Op.bytesLess a c = true
  | [], _, [], _, h => by cases ‹List UInt8› <;> simp [Op.bytesLess] at h
  | [], _, _ :: _, _, _ => by simp [Op.bytesLess]
  | _ :: _, [], _, h, _ => by simp [Op.bytesLess] at h
  | _ :: _, _ :: _, [], _, h => by simp [Op.bytesLess] at h
  | x :: a, y :: b, z :: c, h1, h2 => by
    simp only [Op.bytesLess, Bool.or_eq_true, decide_eq_true_eq, Bool.and_eq_true, beq_iff_eq] at h1 h2 ⊢
    rcases h1 with h1 | ⟨rfl, h1⟩
    · rcases h2 with h2 | ⟨rfl, h2⟩
      · exact .inl (UInt8.lt_trans h1 h2)
      · exact .inl h1
    · rcases h2 with h2 | ⟨rfl, h2⟩
      · exact .inl h2
      · exact .inr ⟨rfl, bless_trans h1 h2⟩
theorem bless_ne {a b : Bs} (h : Op.bytesLess a b = true) : a ≠ b := by rintro rfl; rw [bless_irrefl] at h; cases h
theorem bless_asymm {a b : Bs} (h : Op.bytesLess a b = true) : Op.bytesLess b a = false := by
  cases hb : Op.bytesLess b a with
  | false => rfl
  | true => have := bless_trans h hb; rw [bless_irrefl] at this; cases this
theorem bless_total : ∀ (a b : Bs), a = b ∨ Op.bytesLess a b = true ∨ Op.bytesLess b a = true
  | [], [] => .inl rfl
  | [], _ :: _ => .inr (.inl (by simp [Op.bytesLess]))
  | _ :: _, [] => .inr (.inr (by simp [Op.bytesLess]))
  | x :: a, y :: b => by
    simp only [Op.bytesLess, Bool.or_eq_true, decide_eq_true_eq, Bool.and_eq_true, beq_iff_eq, List.cons.injEq]
    by_cases hxy : x = y
    · subst hxy
      rcases bless_total a b with h | h | h
      · exact .inl ⟨rfl, h⟩
      · exact .inr (.inl (.inr ⟨rfl, h⟩))
      · exact .inr (.inr (.inr ⟨rfl, h⟩))
    · have : x.toNat ≠ y.toNat := fun h => hxy (UInt8.toNat_inj.1 h)
      rcases Nat.lt_or_gt_of_ne this with h | h
      · exact .inr (.inl (.inl (UInt8.lt_iff_toNat_lt.2 h)))
      · exact .inr (.inr (.inl (UInt8.lt_iff_toNat_lt.2 h)))
theorem cmpB_eq : ∀ (a b : Bs), Lib.compareBytes a b = if a = b then 0 else if Op.bytesLess a b = true then -1 else 1
  | [], [] => rfl
  | [], _ :: _ => by simp [Lib.compareBytes, Op.bytesLess]
  | _ :: _, [] => by simp [Lib.compareBytes, Op.bytesLess]
  | x :: a, y :: b => by
    have ih := cmpB_eq a b
    rw [Lib.compareBytes, ih]
    by_cases hxy : x = y
    · subst hxy
      have h1 : ¬ x < x := fun h => absurd (UInt8.lt_iff_toNat_lt.1 h) (Nat.lt_irrefl _)
      simp [Op.bytesLess, h1]
    · by_cases h1 : x < y
      · simp [hxy, h1, Op.bytesLess]
      · have h2 : y < x := by
          have : x.toNat ≠ y.toNat := fun h => hxy (UInt8.toNat_inj.1 h)
          rw [UInt8.lt_iff_toNat_lt] at *; omega
        simp [hxy, h1, h2, Op.bytesLess]

def cmpI (a b : Bs) : Int := Lib.compareBytes a b
theorem cmpI_lt (a b : Bs) : (cmpI a b < 0) ↔ Op.bytesLess a b = true := by
  rw [cmpI, cmpB_eq]
  split
  · rename_i h; subst h; simp [bless_irrefl]
  · split
    · rename_i h; simp [h]
    · rename_i h; simp [h]
theorem cmpI_eq (a b : Bs) : (cmpI a b = 0) ↔ a = b := by
  rw [cmpI, cmpB_eq]
  split
  · rename_i h; simp [h]
  · rename_i h1
    split <;> simp [h1]

theorem cmp0_tri (a b : Bs) : Tri Try.prog 45 [.str a, .str b] [] (fun v H => v = .int .i64 (cmpI a b) ∧ H = []) := by
  refine Tri.of_run' Try.func45 rfl c45_ok (by simp [Try.ntmps45]) ?_
  (repeat (first | refine Run.seq ?_ | refine Run.reg ?_ | refine Run.skip ?_ | refine Run.block ?_ | refine Run.endB ?_ | refine Run.opE rfl ?_ | (apply Run.op0 rfl; (· (simp -implicitDefEqProofs; exact ⟨rfl, rfl⟩))) | (apply Run.opA rfl; (· (simp -implicitDefEqProofs; done)); (· (simp -implicitDefEqProofs; exact ⟨rfl, rfl⟩))) | (apply Run.opN rfl; (· (simp -implicitDefEqProofs; done))) | (refine Run.condT ?_ ?_; (· (simp -implicitDefEqProofs; done))) | (refine Run.condF ?_ ?_; (· (simp -implicitDefEqProofs; done))) | refine Run.exit rfl ?_))
  refine Run.opX (cmp_entry (P := Try.prog) (f := 48) rfl (by kernel_rfl) rfl (by kernel_rfl) (by kernel_rfl) a b _) rfl rfl rfl ?_
  (repeat (first | refine Run.seq ?_ | refine Run.reg ?_ | refine Run.skip ?_ | refine Run.block ?_ | refine Run.endB ?_ | refine Run.opE rfl ?_ | (apply Run.op0 rfl; (· (simp -implicitDefEqProofs; exact ⟨rfl, rfl⟩))) | (apply Run.opA rfl; (· (simp -implicitDefEqProofs; done)); (· (simp -implicitDefEqProofs; exact ⟨rfl, rfl⟩))) | (apply Run.opN rfl; (· (simp -implicitDefEqProofs; done))) | (refine Run.condT ?_ ?_; (· (simp -implicitDefEqProofs; done))) | (refine Run.condF ?_ ?_; (· (simp -implicitDefEqProofs; done))) | refine Run.exit rfl ?_))
  refine Run.retI Try.func45 r45_ok trivial (by simp -implicitDefEqProofs [r45]; rfl) (by simp ) ?_ (by simp -implicitDefEqProofs ) (by simp -implicitDefEqProofs )
  simp [cmpI]
theorem cmp_tri (a b : Bs) : Tri Try.prog 38 [.str a, .str b] [] (fun v H => v = .int .i64 (cmpI a b) ∧ H = []) := by
  refine Tri.of_run' Try.func38 rfl c38_ok (by simp [Try.ntmps38]) ?_
  (repeat (first | refine Run.seq ?_ | refine Run.reg ?_ | refine Run.skip ?_ | refine Run.block ?_ | refine Run.endB ?_ | refine Run.opE rfl ?_ | (apply Run.op0 rfl; (· (simp -implicitDefEqProofs; exact ⟨rfl, rfl⟩))) | (apply Run.opA rfl; (· (simp -implicitDefEqProofs; done)); (· (simp -implicitDefEqProofs; exact ⟨rfl, rfl⟩))) | (apply Run.opN rfl; (· (simp -implicitDefEqProofs; done))) | (refine Run.condT ?_ ?_; (· (simp -implicitDefEqProofs; done))) | (refine Run.condF ?_ ?_; (· (simp -implicitDefEqProofs; done))) | refine Run.exit rfl ?_))
  refine Run.opC rfl rfl rfl (cmp0_tri a b |>.at rfl rfl _) ?_
  rintro v h' ⟨rfl, rfl⟩
  (repeat (first | refine Run.seq ?_ | refine Run.reg ?_ | refine Run.skip ?_ | refine Run.block ?_ | refine Run.endB ?_ | refine Run.opE rfl ?_ | (apply Run.op0 rfl; (· (simp -implicitDefEqProofs; exact ⟨rfl, rfl⟩))) | (apply Run.opA rfl; (· (simp -implicitDefEqProofs; done)); (· (simp -implicitDefEqProofs; exact ⟨rfl, rfl⟩))) | (apply Run.opN rfl; (· (simp -implicitDefEqProofs; done))) | (refine Run.condT ?_ ?_; (· (simp -implicitDefEqProofs; done))) | (refine Run.condF ?_ ?_; (· (simp -implicitDefEqProofs; done))) | refine Run.exit rfl ?_))
  refine Run.retI Try.func38 r38_ok trivial (by simp -implicitDefEqProofs [r38]; rfl) (by simp ) ?_ (by simp -implicitDefEqProofs ) (by simp -implicitDefEqProofs )
  simp
theorem cmp_at (a b : Bs) (H : List O) : Tri Try.prog 38 [.str a, .str b] H (fun v H' => v = .int .i64 (cmpI a b) ∧ H' = H) := (cmp_tri a b).at rfl rfl H

theorem shr1 (n : Nat) (h : n ≤ 1000000) : iShr .u64 (n : Int) 1 = ((n / 2 : Nat) : Int) := by
  have : iShr .u64 (n : Int) 1 = (n : Int).fdiv 2 := rfl
  rw [this, Int.fdiv_eq_ediv_of_nonneg _ (by decide)]
  omega
theorem wrapU (n : Nat) (h : n ≤ 1000000) : IntKind.u64.wrap (n : Int) = (n : Int) := by
  simp only [IntKind.wrap, IntKind.signed, IntKind.bits]
  simp
  omega

/-! ### lists of keys and values -/
section
variable {α : Type}
def RiseK (l : List (Bs × α)) : Prop := l.Pairwise (fun a b => Op.bytesLess a.1 b.1 = true)
/-- where a key stands, or would stand -/
def lowB (l : List (Bs × α)) (key : Bs) : Nat := (l.takeWhile (fun x => Op.bytesLess x.1 key)).length
def hitB (l : List (Bs × α)) (key : Bs) : Bool := match l[lowB l key]? with
  | some x => decide (x.1 = key)
  | none => false
def getB (zero : α) (l : List (Bs × α)) (key : Bs) : α × Bool := if hitB l key = true then (match l[lowB l key]? with | some x => (x.2, true) | none => (zero, false)) else (zero, false)
theorem lowB_le (l : List (Bs × α)) (key : Bs) : lowB l key ≤ l.length := (List.takeWhile_prefix _).length_le
theorem hitB_some {l : List (Bs × α)} {key : Bs} (h : hitB l key = true) : ∃ x, l[lowB l key]? = some x ∧ x.1 = key := by
  unfold hitB at h
  split at h
  · rename_i x hx; exact ⟨x, hx, by simpa using h⟩
  · cases h
theorem tw_len : ∀ {l : List (Bs × α)} (_ : RiseK l) (key : Bs) {m : Nat} {x : Bs × α}, l[m]? = some x → (Op.bytesLess x.1 key = true → m + 1 ≤ (l.takeWhile (fun x => Op.bytesLess x.1 key)).length) ∧ (Op.bytesLess x.1 key = false → (l.takeWhile (fun x => Op.bytesLess x.1 key)).length ≤ m)
  | [], _, key, m, x, h => by simp at h
  | y :: l, hr, key, 0, x, h => by
    simp at h; subst h
    rw [List.takeWhile_cons]
    constructor
    · intro h; simp [h]
    · intro h; simp [h]
  | y :: l, hr, key, m + 1, x, h => by
    obtain ⟨h1, h2⟩ := List.pairwise_cons.1 hr
    have ih := tw_len h2 key (m := m) (x := x) (by simpa using h)
    have hyx := h1 x (List.mem_of_getElem? (by simpa using h))
    rw [List.takeWhile_cons]
    constructor
    · intro hx
      have hy := bless_trans hyx hx
      have := ih.1 hx
      simp only [hy, if_true, List.length_cons]; omega
    · intro hx
      split
      · have := ih.2 hx; simp only [List.length_cons]; omega
      · simp
theorem lowB_cut {l : List (Bs × α)} (hr : RiseK l) (key : Bs) {m : Nat} {x : Bs × α} (h : l[m]? = some x) : (Op.bytesLess x.1 key = true → m + 1 ≤ lowB l key) ∧ (Op.bytesLess x.1 key = false → lowB l key ≤ m) := tw_len hr key h
/-- put -/
def putL (l : List (Bs × α)) (key : Bs) (v : α) : List (Bs × α) := if hitB l key = true then l.set (lowB l key) (key, v) else l.take (lowB l key) ++ (key, v) :: l.drop (lowB l key)
def dropL (l : List (Bs × α)) (key : Bs) : List (Bs × α) := if hitB l key = true then l.take (lowB l key) ++ l.drop (lowB l key + 1) else l
end

end Go.Proofs.Ytoopckhogehdmaa
