/-
  Layer 12, part R: sorting: two ranges merge: where they are cut.
-/
import Derived.Test.YtpipgcmiaccdkaaManQ
namespace Go.Proofs.Ytpipgcmiaccdkaa
open Sx Go
set_option maxRecDepth 100000
set_option linter.unusedSimpArgs false
set_option linter.unusedVariables false
set_option linter.unnecessarySimpa false
attribute [local simp] stepV condR boundsC appendG appendO copyV srcC guardB isCall opStep Opd.ev put readAt aBin aUn args0 V.celled V.ones V.one V.cells putAt bounds bound1 elemsOf srcOf appendV fillAt fillEl V.pures V.pure unwind evs ARes.ev mkRes V.ren V.renL O.ren eqCells eq1 aEq aMM hasTy hasTyN okTy mmGo Known HLe OLe VsLe.refl VLe.refl VLe.cap Stay VsLe V.frz V.frzL O.frz fr clearV rn KnownR Objs OLeO ObjsE nm back setAll ren_ite take_map_len List.take_of_length_le
attribute [local simp ↓] upd_app tl_cons tl_nil
attribute [local simp] encT_ren encT_ones encT_len encT_take encN_ren encN_ones encN_len encN_take
attribute [local simp] encE_ren encE_len encE_take encZ_ren encZ_len encZ_take

theorem sym_main {N : Nat} (hN : SymI N) (P X Y S : List Tb) (hle : X.length + Y.length ≤ N + 1) (hx : 2 ≤ X.length) (hy : 2 ≤ Y.length) (sx : Srt X) (sy : Srt Y) (hl0 : (P ++ X ++ Y ++ S).length ≤ 1000000) {a m b L : Nat} (ha : a = P.length) (hm : m = P.length + X.length) (hb : b = P.length + X.length + Y.length)
    (hl : P.length + X.length + Y.length + S.length ≤ 1000000) (hL : L = P.length + X.length + Y.length + S.length) {W : List Tb} (hW : W = P ++ X ++ Y ++ S) (hWl : W.length = L) (gx : ∀ s x, X[s]? = some x → W[a + s]? = some x) (gy : ∀ s y, Y[s]? = some y → W[m + s]? = some y)
    {mid n p : Nat} (hmid : mid = (a + b) / 2) (hn : n = mid + m) (hp : p = n - 1) (s0 r0 : Nat) (w1 : a ≤ s0) (w2 : s0 ≤ r0) (w3 : r0 ≤ m) (w4 : m + r0 ≤ n) (w5 : n ≤ b + s0) (w6 : s0 = a ∨ n = b + s0) (w7 : r0 = m ∨ n = m + r0) :
    Run ⟨Try.prog, 73, Try.f73.ntmps, [.arr (W.map encT) 4], MrgP P X Y S⟩ ⟨[.code (.loop c73l4), .endB 8, .code k0], tl [(0, .sl 0 0 L 4 none), (1, .int .i64 a), (2, .int .i64 m), (3, .int .i64 b), (4, .fn 50 []), (18, .int .i64 mid), (19, .int .i64 n), (20, .int .i64 s0), (21, .int .i64 r0), (22, .int .i64 p)], [.arr (W.map encT) 4]⟩ := by
  obtain ⟨K, hK⟩ : ∃ K, K = k0 := ⟨_, rfl⟩
  rw [← hK]
  refine Run.loopC [0] (fun (q : Nat × Nat) => ([(0, .sl 0 0 L 4 none), (1, .int .i64 a), (2, .int .i64 m), (3, .int .i64 b), (4, .fn 50 []), (18, .int .i64 mid), (19, .int .i64 n), (20, .int .i64 q.1), (21, .int .i64 q.2), (22, .int .i64 p)], [.arr (W.map encT) 4]))
    (fun q => s0 ≤ q.1 ∧ q.1 ≤ q.2 ∧ q.2 ≤ r0 ∧ (∀ x y, s0 < q.1 → X[q.1 - 1 - a]? = some x → Y[n - q.1 - m]? = some y → leT x y) ∧ (∀ x y, q.2 < r0 → Y[n - q.2 - 1 - m]? = some y → X[q.2 - a]? = some x → leT y x)) (fun q => q.2 - q.1) (s0, r0) ⟨by simp only; omega, by simp only; omega, by simp only; omega, fun x y h => by simp only at h; omega, fun x y h => by simp only at h; omega⟩ (by rfl) (by decide) (by simp) (by simp) ?_
  rintro ⟨s, r⟩ ⟨v1, v2, v3, hlo, hhi⟩ ih
  simp only at v1 v2 v3 hlo hhi ih ⊢
  by_cases hlt : s < r
  · have hlt' : (s : Int) < r := by omega
    obtain ⟨c, hc⟩ : ∃ c, c = (s + r) / 2 := ⟨_, rfl⟩
    obtain ⟨f1, f2, f3, f4, f5⟩ := half s r c hc (by omega)
    have hc1 : s ≤ c := by omega
    have hc2 : c < r := by omega
    obtain ⟨x, hxx, -, -, -⟩ := getL (l := X) (i := c - a) (by omega)
    obtain ⟨y, hyy, -, -, -⟩ := getL (l := Y) (i := n - c - 1 - m) (by omega)
    have g1 := gx _ _ hxx
    have g2 := gy _ _ hyy
    obtain ⟨d, hd⟩ : ∃ d, d = n - c - 1 := ⟨_, rfl⟩
    rw [show a + (c - a) = c by omega] at g1
    rw [show m + (n - c - 1 - m) = d by omega] at g2
    have hwd : IntKind.i64.wrap ((p : Int) - c) = (d : Int) := by rw [wrap_small (by omega) (by omega)]; omega
    have h5 : c < W.length := (List.getElem?_eq_some_iff.1 g1).1
    have h6 : d < W.length := (List.getElem?_eq_some_iff.1 g2).1
    have g1' : W[c] = x := (List.getElem?_eq_some_iff.1 g1).2
    have g2' : W[d] = y := (List.getElem?_eq_some_iff.1 g2).2
    have h5' : c < L := by omega
    have h6' : d < L := by omega
    have hor := fun H => order_at y x H
    simp only [encT] at hor
    (repeat (first | refine Run.adm rfl ?_ | refine Run.seq ?_ | (apply Run.opS rfl; (· (simp -implicitDefEqProofs [hlt', hlt, f1, f2, f3, f4]; exact ⟨rfl, rfl⟩))) | (apply Run.condS; (· (simp -implicitDefEqProofs [hlt', hlt, f1, f2, f3, f4]; exact rfl)))))
    refine Run.quietM prog_mixed (by kernel_rfl) [0] [(0, .sl 0 0 L 4 none), (1, .int .i64 a), (2, .int .i64 m), (3, .int .i64 b), (4, .fn 50 []), (18, .int .i64 mid), (19, .int .i64 n), (20, .int .i64 s), (21, .int .i64 r), (22, .int .i64 p), (23, .int .i64 c), (171, .bool (!aheadB y x))] [.arr (W.map encT) 4] (by rfl) (by decide) ?_ ?_
    · (repeat (first | refine execQ_E rfl ?_ | (apply execQ_S rfl; (· (simp -implicitDefEqProofs [hwd, h5, h6, h5', h6', g1, g2, g1', g2', encT]; exact ⟨rfl, rfl⟩)))))
      refine execQ_C rfl rfl rfl (hor _) ?_
      (repeat (first | refine execQ_E rfl ?_ | (apply execQ_S rfl; (· (simp -implicitDefEqProofs; exact ⟨rfl, rfl⟩)))))
      have := ordI_lt y x
      cases hxz : aheadB y x with
      | true => simp [this.2 hxz]
      | false => simp [show ¬ ordI y x < 0 from fun h => by rw [this.1 h] at hxz; cases hxz]
    cases hyx : aheadB y x with
    | false =>
      (repeat (first | refine Run.adm rfl ?_ | refine Run.seq ?_ | (apply Run.opS rfl; (· (simp -implicitDefEqProofs; exact ⟨rfl, rfl⟩))) | (apply Run.condS; (· (simp -implicitDefEqProofs; exact rfl)))))
      have hq2 := ih (c + 1, r) ⟨by simp only; omega, by simp only; omega, v3, fun x' y' _ q1 q2 => by
        simp only [Nat.add_sub_cancel] at q1 q2
        rw [show n - (c + 1) - m = n - c - 1 - m by omega] at q2
        rw [hxx] at q1; rw [hyy] at q2
        cases q1; cases q2; exact hyx, hhi⟩ (by simp only; omega)
      simp only at hq2
      refine Run.mv [0] _ _ (by rfl) (by decide) ?_ ?_ hq2
      · simp [f5]
      · simp
    | true =>
      (repeat (first | refine Run.adm rfl ?_ | refine Run.seq ?_ | (apply Run.opS rfl; (· (simp -implicitDefEqProofs; exact ⟨rfl, rfl⟩))) | (apply Run.condS; (· (simp -implicitDefEqProofs; exact rfl)))))
      have hq2 := ih (s, c) ⟨v1, by simp only; omega, by simp only; omega, hlo, fun x' y' _ q1 q2 => by
        simp only at q1 q2
        rw [hxx] at q2; rw [hyy] at q1
        cases q1; cases q2; exact ahead_le hyx⟩ (by simp only; omega)
      simp only at hq2
      refine Run.mv [0] _ _ (by rfl) (by decide) ?_ ?_ hq2
      · simp
      · simp
  · obtain rfl : s = r := by omega
    clear ih
    obtain ⟨e, he⟩ : ∃ e, e = n - s := ⟨_, rfl⟩
    have hwe : IntKind.i64.wrap ((n : Int) - s) = (e : Int) := by rw [wrap_small (by omega) (by omega)]; omega
    have tx : (X.take (s - a)).length = s - a := by rw [List.length_take]; omega
    have ty : (Y.take (e - m)).length = e - m := by rw [List.length_take]; omega
    have dx : (X.drop (s - a)).length = X.length - (s - a) := List.length_drop ..
    have dy : (Y.drop (e - m)).length = Y.length - (e - m) := List.length_drop ..
    have ex : X.take (s - a) ++ X.drop (s - a) = X := List.take_append_drop ..
    have ey : Y.take (e - m) ++ Y.drop (e - m) = Y := List.take_append_drop ..
    have eW : P ++ X.take (s - a) ++ X.drop (s - a) ++ Y.take (e - m) ++ Y.drop (e - m) ++ S = W := by
      rw [hW, List.append_assoc P, ex, List.append_assoc (P ++ X), ey]
    have hc1 : ∀ x ∈ X.take (s - a), ∀ y ∈ Y.drop (e - m), leT x y := by
      intro x hx' y hy'
      by_cases hs0 : s = s0
      · rcases w6 with h | h
        · rw [show s - a = 0 by omega] at hx'; simp at hx'
        · rw [show e - m = Y.length by omega, List.drop_length] at hy'; simp at hy'
      · refine take_le sx (p := s - a) (x := y) (fun x0 hp0 hx0 => ?_) (by omega) x hx'
        refine drop_ge sy (p := e - m) (x := x0) (fun y0 hy0 => ?_) y hy'
        refine hlo x0 y0 (by omega) ?_ ?_
        · rw [show s - 1 - a = s - a - 1 by omega]; exact hx0
        · rw [show n - s - m = e - m by omega]; exact hy0
    have hc2 : ∀ y ∈ Y.take (e - m), ∀ x ∈ X.drop (s - a), leT y x := by
      intro y hy' x hx'
      by_cases hr0 : s = r0
      · rcases w7 with h | h
        · rw [show s - a = X.length by omega, List.drop_length] at hx'; simp at hx'
        · rw [show e - m = 0 by omega] at hy'; simp at hy'
      · refine take_le sy (p := e - m) (x := x) (fun y0 hp0 hy0 => ?_) (by omega) y hy'
        refine drop_ge sx (p := s - a) (x := y0) (fun x0 hx0 => ?_) x hx'
        refine hhi x0 y0 (by omega) ?_ hx0
        rw [show n - s - 1 - m = e - m - 1 by omega]; exact hy0
    have htl := sym_tail hN P (X.take (s - a)) (X.drop (s - a)) (Y.take (e - m)) (Y.drop (e - m)) S (by omega) (by omega) (by rw [ex]; exact sx) (by rw [ey]; exact sy) hc1 hc2 (by rw [eW, hW]; exact hl0) (a := a) (m := m) (b := b) (s := s) (e := e) (mid := mid) (L := L) ha (by omega) (by omega) (by omega) (by omega) (by omega) (by rw [eW, hWl]) (H0 := [.arr (W.map encT) 4]) rfl
    rw [ex, ey, eW] at htl
    (repeat (first | refine Run.adm rfl ?_ | refine Run.seq ?_ | (apply Run.opS rfl; (· (simp -implicitDefEqProofs; exact ⟨rfl, rfl⟩))) | (apply Run.condS; (· (simp -implicitDefEqProofs; exact rfl)))))
    rw [hK]
    unfold k0
    obtain ⟨K1, hK1⟩ : ∃ K, K = k1 := ⟨_, rfl⟩
    rw [← hK1] at htl ⊢
    (repeat (first | refine Run.adm rfl ?_ | refine Run.seq ?_ | (apply Run.opS rfl; (· (simp -implicitDefEqProofs; exact ⟨rfl, rfl⟩))) | (apply Run.condS; (· (simp -implicitDefEqProofs; exact rfl)))))
    refine Run.mv [0] _ _ (by rfl) (by decide) ?_ ?_ htl
    · simp [hwe]
    · simp

theorem sym_step {N : Nat} (hN : SymI N) (P X Y S : List Tb) (hle : X.length + Y.length ≤ N + 1) (hx : 2 ≤ X.length) (hy : 2 ≤ Y.length) (sx : Srt X) (sy : Srt Y) (hl : (P ++ X ++ Y ++ S).length ≤ 1000000) {a m b L : Nat} (ha : a = P.length) (hm : m = P.length + X.length) (hb : b = P.length + X.length + Y.length) (hL : L = (P ++ X ++ Y ++ S).length) :
    Tri Try.prog 73 [.sl 0 0 L 4 none, .int .i64 a, .int .i64 m, .int .i64 b, .fn 50 []] [.arr ((P ++ X ++ Y ++ S).map encT) 4] (MrgP P X Y S) := by
  have hl0 := hl
  have hL0 := hL
  simp only [List.length_append] at hl hL
  refine Tri.of_run' Try.func73 rfl c73_ok (by simp [Try.ntmps73]) ?_
  have hw1 : IntKind.i64.wrap ((m : Int) - a) = (X.length : Int) := by rw [wrap_small (by omega) (by omega)]; omega
  have hw2 : IntKind.i64.wrap ((b : Int) - m) = (Y.length : Int) := by rw [wrap_small (by omega) (by omega)]; omega
  have hx1 : ¬ X.length = 1 := by omega
  have hx1' : ¬ (X.length : Int) = 1 := by omega
  have hy1 : ¬ Y.length = 1 := by omega
  have hy1' : ¬ (Y.length : Int) = 1 := by omega
  obtain ⟨W, hW⟩ : ∃ W, W = P ++ X ++ Y ++ S := ⟨_, rfl⟩
  have hWl : W.length = L := by rw [hW]; simp only [List.length_append]; omega
  have gx : ∀ s x, X[s]? = some x → W[a + s]? = some x := by
    intro s x hx
    have : s < X.length := (List.getElem?_eq_some_iff.1 hx).1
    rw [hW, List.append_assoc, List.append_assoc, List.getElem?_append_right (by omega), show a + s - P.length = s by omega, List.getElem?_append_left this]; exact hx
  have gy : ∀ s y, Y[s]? = some y → W[m + s]? = some y := by
    intro s y hy
    have : s < Y.length := (List.getElem?_eq_some_iff.1 hy).1
    rw [hW, List.append_assoc, List.getElem?_append_right (by rw [List.length_append]; omega), show m + s - (P ++ X).length = s by rw [List.length_append]; omega, List.getElem?_append_left this]; exact hy
  obtain ⟨mid, hmid⟩ : ∃ mid, mid = (a + b) / 2 := ⟨_, rfl⟩
  obtain ⟨e1, e2, e3, e4, -⟩ := half a b mid hmid (by omega)
  obtain ⟨n, hn⟩ : ∃ n, n = mid + m := ⟨_, rfl⟩
  have hwn : IntKind.i64.wrap ((mid : Int) + m) = (n : Int) := by rw [wrap_small (by omega) (by omega)]; omega
  obtain ⟨p, hp⟩ : ∃ p, p = n - 1 := ⟨_, rfl⟩
  have hwp : IntKind.i64.wrap ((n : Int) - 1) = (p : Int) := by rw [wrap_small (by omega) (by omega)]; omega
  have hmain := sym_main hN P X Y S hle hx hy sx sy hl0 ha hm hb hl hL hW hWl gx gy hmid hn hp
  rw [← hW]
  (repeat (first | refine Run.adm rfl ?_ | refine Run.seq ?_ | (apply Run.opS rfl; (· (simp -implicitDefEqProofs [hw1, hw2, hx1, hx1', hy1, hy1', e1, e2, e3, e4, hwn]; exact ⟨rfl, rfl⟩))) | (apply Run.condS; (· (simp -implicitDefEqProofs [hw1, hw2, hx1, hx1', hy1, hy1', e1, e2, e3, e4, hwn]; exact rfl)))))
  by_cases hgt : mid < m
  · have hgt' : (mid : Int) < m := by omega
    have hwr : IntKind.i64.wrap ((n : Int) - b) = ((n - b : Nat) : Int) := by rw [wrap_small (by omega) (by omega)]; omega
    obtain ⟨s0, hs0⟩ : ∃ s0, s0 = n - b := ⟨_, rfl⟩
    rw [← hs0] at hwr
    (repeat (first | refine Run.adm rfl ?_ | refine Run.seq ?_ | (apply Run.opS rfl; (· (simp -implicitDefEqProofs [hgt, hgt', hwr, hwp]; exact ⟨rfl, rfl⟩))) | (apply Run.condS; (· (simp -implicitDefEqProofs [hgt, hgt', hwr, hwp]; exact rfl)))))
    refine Run.mv [0] _ _ (by rfl) (by decide) ?_ ?_ (hmain s0 mid (by omega) (by omega) (by omega) (by omega) (by omega) (.inr (by omega)) (.inr (by omega)))
    · simp
    · simp
  · have hgt' : ¬ (mid : Int) < m := by omega
    (repeat (first | refine Run.adm rfl ?_ | refine Run.seq ?_ | (apply Run.opS rfl; (· (simp -implicitDefEqProofs [hgt, hgt', hwp]; exact ⟨rfl, rfl⟩))) | (apply Run.condS; (· (simp -implicitDefEqProofs [hgt, hgt', hwp]; exact rfl)))))
    refine Run.mv [0] _ _ (by rfl) (by decide) ?_ ?_ (hmain a m (by omega) (by omega) (by omega) (by omega) (by omega) (.inl rfl) (.inl rfl))
    · simp
    · simp

theorem sym_all : ∀ N, SymI N
  | 0 => fun P X Y S h hx hy => by omega
  | N + 1 => by
    intro P X Y S h hx hy sx sy hl a m b L ha hm hb hL
    by_cases h1 : X.length = 1
    · obtain ⟨x, rfl⟩ := List.length_eq_one_iff.1 h1
      exact sym1_tri P Y S x sy hl ha (by simpa using hm) (by simpa using hb) hL
    · by_cases h2 : Y.length = 1
      · obtain ⟨y, rfl⟩ := List.length_eq_one_iff.1 h2
        exact sym2_tri P X S y sx h1 hl ha hm (by simpa using hb) hL
      · exact sym_step (sym_all N) P X Y S h (by omega) (by omega) sx sy hl ha hm hb hL

end Go.Proofs.Ytpipgcmiaccdkaa
