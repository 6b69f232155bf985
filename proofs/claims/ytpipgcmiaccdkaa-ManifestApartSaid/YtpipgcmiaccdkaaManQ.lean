/-
  Layer 12, part Q: sorting: two ranges merge.
-/
import Derived.Test.YtpipgcmiaccdkaaManP
namespace Go.Proofs.Ytpipgcmiaccdkaa
open Sx Go
set_option maxRecDepth 100000
set_option linter.unusedSimpArgs false
set_option linter.unusedVariables false
set_option linter.unnecessarySimpa false
attribute [local simp] stepV condR boundsC appendG appendO copyV srcC guardB isCall opStep Opd.ev put readAt aBin aUn args0 V.celled V.ones V.one V.cells putAt bounds bound1 elemsOf srcOf appendV fillAt fillEl V.pures V.pure unwind evs ARes.ev mkRes V.ren V.renL O.ren eqCells eq1 aEq aMM hasTy hasTyN okTy mmGo Known HLe OLe VsLe.refl VLe.refl VLe.cap Stay VsLe V.frz V.frzL O.frz fr clearV rn KnownR Objs OLeO ObjsE nm back setAll ren_ite take_map_len List.take_of_length_le
attribute [local simp ↓] upd_app tl_cons tl_nil
attribute [local simp] encT_ren encT_ones encT_len encT_take encN_ren encN_ones encN_len encN_take
attribute [local simp] encE_ren encE_len encE_take encZ_ren encZ_len encZ_take

def k3 : AC := (AC.seq (AC.region c73r38) (AC.cond (Opd.t 213) (AC.region c73r39) AC.skip))
def k2 : AC := (AC.seq (AC.seq (AC.region c73r36) (AC.cond (Opd.t 199) (AC.region c73r37) AC.skip)) k3)
def k1 : AC := (AC.seq (AC.seq (AC.region c73r34) (AC.cond (Opd.t 185) (AC.region c73r35) AC.skip)) k2)
def k0 : AC := (AC.seq (AC.region c73r33) k1)

/-- the merge of fewer -/
def SymI (N : Nat) : Prop := ∀ (P X Y S : List Tb), X.length + Y.length ≤ N → 0 < X.length → 0 < Y.length → Srt X → Srt Y → (P ++ X ++ Y ++ S).length ≤ 1000000 → ∀ {a m b L : Nat}, a = P.length → m = P.length + X.length → b = P.length + X.length + Y.length → L = (P ++ X ++ Y ++ S).length →
    Tri Try.prog 73 [.sl 0 0 L 4 none, .int .i64 a, .int .i64 m, .int .i64 b, .fn 50 []] [.arr ((P ++ X ++ Y ++ S).map encT) 4] (MrgP P X Y S)

theorem sym_tail {N : Nat} (hN : SymI N) (P X1 X2 Y1 Y2 S : List Tb) (h1 : X1.length + Y1.length ≤ N) (h2 : X2.length + Y2.length ≤ N) (s1 : Srt (X1 ++ X2)) (s2 : Srt (Y1 ++ Y2)) (c1 : ∀ x ∈ X1, ∀ y ∈ Y2, leT x y) (c2 : ∀ y ∈ Y1, ∀ x ∈ X2, leT y x)
    (hl : (P ++ X1 ++ X2 ++ Y1 ++ Y2 ++ S).length ≤ 1000000) {a m b s e mid L : Nat} (ha : a = P.length) (hs : s = a + X1.length) (hm : m = s + X2.length) (he : e = m + Y1.length) (hb : b = e + Y2.length) (hmid : mid = s + Y1.length) (hL : L = (P ++ X1 ++ X2 ++ Y1 ++ Y2 ++ S).length) {H0 : List O} (hH0 : H0.length = 1) :
    Run ⟨Try.prog, 73, Try.f73.ntmps, H0, MrgP P (X1 ++ X2) (Y1 ++ Y2) S⟩ ⟨[.code k1], tl [(0, .sl 0 0 L 4 none), (1, .int .i64 a), (2, .int .i64 m), (3, .int .i64 b), (4, .fn 50 []), (18, .int .i64 mid), (20, .int .i64 s), (24, .int .i64 e)], [.arr ((P ++ X1 ++ X2 ++ Y1 ++ Y2 ++ S).map encT) 4]⟩ := by
  simp only [List.length_append] at hl hL
  obtain ⟨sx1, sx2, sxc⟩ := List.pairwise_append.1 s1
  obtain ⟨sy1, sy2, syc⟩ := List.pairwise_append.1 s2
  have hfin : ∀ Z1 Z2, Z1.Perm (X1 ++ Y1) → Srt Z1 → Z2.Perm (X2 ++ Y2) → Srt Z2 → ∀ {W}, W = P ++ Z1 ++ Z2 ++ S → ∀ {k t}, AtEnd k → Run ⟨Try.prog, 73, Try.f73.ntmps, H0, MrgP P (X1 ++ X2) (Y1 ++ Y2) S⟩ ⟨k, t, [.arr (W.map encT) 4]⟩ := by
    intro Z1 Z2 p1 q1 p2 q2 W hW k t hk
    refine Run.retI Try.func73 r73_ok hk (by simp [r73]; rfl) (by simp [hH0]) ?_ (by simp [hH0]) (by simp)
    refine ⟨rfl, Z1 ++ Z2, ?_, List.pairwise_append.2 ⟨q1, q2, fun z hz w hw => ?_⟩, by rw [hW]; simp⟩
    · refine (p1.append p2).trans ?_
      rw [List.append_assoc, List.append_assoc]
      refine List.Perm.append_left X1 ?_
      rw [← List.append_assoc, ← List.append_assoc]
      exact List.Perm.append_right Y2 List.perm_append_comm
    · rcases List.mem_append.1 (p1.subset hz) with hz | hz
      · rcases List.mem_append.1 (p2.subset hw) with hw | hw
        · exact sxc z hz w hw
        · exact c1 z hz w hw
      · rcases List.mem_append.1 (p2.subset hw) with hw | hw
        · exact c2 z hz w hw
        · exact syc z hz w hw
  have hC : ∀ Z1, Z1.Perm (X1 ++ Y1) → Srt Z1 → ∀ {W}, W = P ++ Z1 ++ X2 ++ Y2 ++ S → Run ⟨Try.prog, 73, Try.f73.ntmps, H0, MrgP P (X1 ++ X2) (Y1 ++ Y2) S⟩ ⟨[.code k3], tl [(0, .sl 0 0 L 4 none), (3, .int .i64 b), (4, .fn 50 []), (18, .int .i64 mid), (24, .int .i64 e)], [.arr (W.map encT) 4]⟩ := by
    intro Z1 p1 q1 W hW
    have hz := p1.length_eq
    rw [List.length_append] at hz
    unfold k3
    by_cases g1 : mid < e
    · have g1' : (mid : Int) < e := by omega
      by_cases g2 : e < b
      · have g2' : (e : Int) < b := by omega
        have hq := hN (P ++ Z1) X2 Y2 S h2 (by omega) (by omega) sx2 sy2 (by simp only [List.length_append]; omega) (a := mid) (m := e) (b := b) (L := L) (by simp only [List.length_append]; omega) (by simp only [List.length_append]; omega) (by simp only [List.length_append]; omega) (by simp only [List.length_append]; omega)
        rw [← hW] at hq
        (repeat (first | refine Run.adm rfl ?_ | refine Run.seq ?_ | (apply Run.opS rfl; (· (simp -implicitDefEqProofs [g1, g1', g2, g2']; exact ⟨rfl, rfl⟩))) | (apply Run.condS; (· (simp -implicitDefEqProofs [g1, g1', g2, g2']; exact rfl)))))
        refine Run.opC rfl rfl rfl hq ?_
        rintro v h' ⟨rfl, Z2, p2, q2, rfl⟩
        obtain ⟨W2, hW2⟩ : ∃ W2, W2 = P ++ Z1 ++ Z2 ++ S := ⟨_, rfl⟩
        rw [← hW2]
        (repeat (first | refine Run.adm rfl ?_ | refine Run.seq ?_ | (apply Run.opS rfl; (· (simp -implicitDefEqProofs; exact ⟨rfl, rfl⟩))) | (apply Run.condS; (· (simp -implicitDefEqProofs; exact rfl)))))
        exact hfin Z1 Z2 p1 q1 p2 q2 hW2 trivial
      · have g2' : ¬ (e : Int) < b := by omega
        have hy2 : Y2 = [] := List.length_eq_zero_iff.1 (by omega)
        (repeat (first | refine Run.adm rfl ?_ | refine Run.seq ?_ | (apply Run.opS rfl; (· (simp -implicitDefEqProofs [g1, g1', g2, g2']; exact ⟨rfl, rfl⟩))) | (apply Run.condS; (· (simp -implicitDefEqProofs [g1, g1', g2, g2']; exact rfl)))))
        exact hfin Z1 X2 p1 q1 (by rw [hy2, List.append_nil]) sx2 (by rw [hW, hy2, List.append_nil]) trivial
    · have g1' : ¬ (mid : Int) < e := by omega
      have hx2 : X2 = [] := List.length_eq_zero_iff.1 (by omega)
      (repeat (first | refine Run.adm rfl ?_ | refine Run.seq ?_ | (apply Run.opS rfl; (· (simp -implicitDefEqProofs [g1, g1']; exact ⟨rfl, rfl⟩))) | (apply Run.condS; (· (simp -implicitDefEqProofs [g1, g1']; exact rfl)))))
      exact hfin Z1 Y2 p1 q1 (by rw [hx2, List.nil_append]) sy2 (by rw [hW, hx2, List.append_nil]) trivial
  have hB : ∀ {W}, W = P ++ X1 ++ Y1 ++ X2 ++ Y2 ++ S → Run ⟨Try.prog, 73, Try.f73.ntmps, H0, MrgP P (X1 ++ X2) (Y1 ++ Y2) S⟩ ⟨[.code k2], tl [(0, .sl 0 0 L 4 none), (1, .int .i64 a), (3, .int .i64 b), (4, .fn 50 []), (18, .int .i64 mid), (20, .int .i64 s), (24, .int .i64 e)], [.arr (W.map encT) 4]⟩ := by
    intro W hW
    unfold k2
    generalize k3 = K at *
    by_cases g1 : a < s
    · have g1' : (a : Int) < s := by omega
      by_cases g2 : s < mid
      · have g2' : (s : Int) < mid := by omega
        have hq := hN P X1 Y1 (X2 ++ Y2 ++ S) h1 (by omega) (by omega) sx1 sy1 (by simp only [List.length_append]; omega) (a := a) (m := s) (b := mid) (L := L) ha (by omega) (by omega) (by simp only [List.length_append]; omega)
        rw [show P ++ X1 ++ Y1 ++ (X2 ++ Y2 ++ S) = W by rw [hW]; simp] at hq
        (repeat (first | refine Run.adm rfl ?_ | refine Run.seq ?_ | (apply Run.opS rfl; (· (simp -implicitDefEqProofs [g1, g1', g2, g2']; exact ⟨rfl, rfl⟩))) | (apply Run.condS; (· (simp -implicitDefEqProofs [g1, g1', g2, g2']; exact rfl)))))
        refine Run.opC rfl rfl rfl hq ?_
        rintro v h' ⟨rfl, Z1, p1, q1, rfl⟩
        obtain ⟨W2, hW2⟩ : ∃ W2, W2 = P ++ Z1 ++ (X2 ++ Y2 ++ S) := ⟨_, rfl⟩
        rw [← hW2]
        (repeat (first | refine Run.adm rfl ?_ | refine Run.seq ?_ | (apply Run.opS rfl; (· (simp -implicitDefEqProofs; exact ⟨rfl, rfl⟩))) | (apply Run.condS; (· (simp -implicitDefEqProofs; exact rfl)))))
        refine Run.mv [0] _ _ (by rw [hH0]; rfl) (by decide) ?_ ?_ (hC Z1 p1 q1 (W := W2) (by rw [hW2]; simp))
        · simp
        · simp
      · have g2' : ¬ (s : Int) < mid := by omega
        have hy1 : Y1 = [] := List.length_eq_zero_iff.1 (by omega)
        (repeat (first | refine Run.adm rfl ?_ | refine Run.seq ?_ | (apply Run.opS rfl; (· (simp -implicitDefEqProofs [g1, g1', g2, g2']; exact ⟨rfl, rfl⟩))) | (apply Run.condS; (· (simp -implicitDefEqProofs [g1, g1', g2, g2']; exact rfl)))))
        refine Run.mv [0] _ _ (by rw [hH0]; rfl) (by decide) ?_ ?_ (hC X1 (by rw [hy1, List.append_nil]) sx1 (W := W) (by rw [hW, hy1]; simp))
        · simp
        · simp
    · have g1' : ¬ (a : Int) < s := by omega
      have hx1 : X1 = [] := List.length_eq_zero_iff.1 (by omega)
      (repeat (first | refine Run.adm rfl ?_ | refine Run.seq ?_ | (apply Run.opS rfl; (· (simp -implicitDefEqProofs [g1, g1']; exact ⟨rfl, rfl⟩))) | (apply Run.condS; (· (simp -implicitDefEqProofs [g1, g1']; exact rfl)))))
      refine Run.mv [0] _ _ (by rw [hH0]; rfl) (by decide) ?_ ?_ (hC Y1 (by rw [hx1, List.nil_append]) sy1 (W := W) (by rw [hW, hx1]; simp))
      · simp
      · simp
  unfold k1
  generalize k2 = K at *
  obtain ⟨W, hW⟩ : ∃ W, W = P ++ X1 ++ X2 ++ Y1 ++ Y2 ++ S := ⟨_, rfl⟩
  rw [← hW]
  by_cases g1 : s < m
  · have g1' : (s : Int) < m := by omega
    by_cases g2 : m < e
    · have g2' : (m : Int) < e := by omega
      have hq := rot_tri (P ++ X1) X2 Y1 (Y2 ++ S) (by omega) (by omega) (by simp only [List.length_append]; omega) (a := s) (m := m) (b := e) (L := L) (by simp only [List.length_append]; omega) (by simp only [List.length_append]; omega) (by simp only [List.length_append]; omega) (by simp only [List.length_append]; omega)
      rw [show P ++ X1 ++ X2 ++ Y1 ++ (Y2 ++ S) = W by rw [hW]; simp] at hq
      (repeat (first | refine Run.adm rfl ?_ | refine Run.seq ?_ | (apply Run.opS rfl; (· (simp -implicitDefEqProofs [g1, g1', g2, g2']; exact ⟨rfl, rfl⟩))) | (apply Run.condS; (· (simp -implicitDefEqProofs [g1, g1', g2, g2']; exact rfl)))))
      refine Run.opC rfl rfl rfl hq ?_
      rintro v h' ⟨rfl, rfl⟩
      obtain ⟨W2, hW2⟩ : ∃ W2, W2 = P ++ X1 ++ Y1 ++ X2 ++ (Y2 ++ S) := ⟨_, rfl⟩
      rw [← hW2]
      (repeat (first | refine Run.adm rfl ?_ | refine Run.seq ?_ | (apply Run.opS rfl; (· (simp -implicitDefEqProofs; exact ⟨rfl, rfl⟩))) | (apply Run.condS; (· (simp -implicitDefEqProofs; exact rfl)))))
      refine Run.mv [0] _ _ (by rw [hH0]; rfl) (by decide) ?_ ?_ (hB (W := W2) (by rw [hW2]; simp))
      · simp
      · simp
    · have g2' : ¬ (m : Int) < e := by omega
      have hy1 : Y1 = [] := List.length_eq_zero_iff.1 (by omega)
      (repeat (first | refine Run.adm rfl ?_ | refine Run.seq ?_ | (apply Run.opS rfl; (· (simp -implicitDefEqProofs [g1, g1', g2, g2']; exact ⟨rfl, rfl⟩))) | (apply Run.condS; (· (simp -implicitDefEqProofs [g1, g1', g2, g2']; exact rfl)))))
      refine Run.mv [0] _ _ (by rw [hH0]; rfl) (by decide) ?_ ?_ (hB (W := W) (by rw [hW, hy1]; simp))
      · simp
      · simp
  · have g1' : ¬ (s : Int) < m := by omega
    have hx2 : X2 = [] := List.length_eq_zero_iff.1 (by omega)
    (repeat (first | refine Run.adm rfl ?_ | refine Run.seq ?_ | (apply Run.opS rfl; (· (simp -implicitDefEqProofs [g1, g1']; exact ⟨rfl, rfl⟩))) | (apply Run.condS; (· (simp -implicitDefEqProofs [g1, g1']; exact rfl)))))
    refine Run.mv [0] _ _ (by rw [hH0]; rfl) (by decide) ?_ ?_ (hB (W := W) (by rw [hW, hx2]; simp))
    · simp
    · simp

end Go.Proofs.Ytpipgcmiaccdkaa
