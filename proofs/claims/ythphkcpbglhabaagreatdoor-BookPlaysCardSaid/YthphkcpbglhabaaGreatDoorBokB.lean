/-
  Layer 18, part B: which shards may be; lists of numbers that are the same; a book's record.
-/
import Derived.Test.YthphkcpbglhabaaGreatDoorBokA
import Derived.Test.YthphkcpbglhabaaGreatDoorBld
namespace Go.Proofs.YthphkcpbglhabaaGreatDoor
open Sx Go
set_option maxRecDepth 100000
set_option linter.unusedSimpArgs false
set_option linter.unusedVariables false
set_option linter.unnecessarySimpa false
attribute [local simp] stepV condR boundsC appendG appendO copyV srcC guardB isCall opStep Opd.ev put readAt aBin aUn args0 V.celled V.ones V.one V.cells putAt bounds bound1 elemsOf srcOf appendV fillAt fillEl V.pures V.pure unwind evs ARes.ev mkRes V.ren V.renL O.ren eqCells eq1 aEq aMM hasTy hasTyN okTy mmGo Known HLe OLe VsLe.refl VLe.refl VLe.cap Stay VsLe V.frz V.frzL O.frz fr clearV rn KnownR Objs OLeO ObjsE nm back setAll ren_ite take_map_len List.take_of_length_le
attribute [local simp ↓] upd_app tl_cons tl_nil
attribute [local simp] encS_ren encS_ones encS_len encS_take KnownS VLe.refl

theorem encN_ren : ∀ (ρ : Nat → Option Nat) (x : Int), V.renL ρ (encN x) = encN x := fun _ _ => rfl
theorem encN_ones (x : Int) : V.ones (encN x) = true := rfl
attribute [local simp] encN_ren encN_ones

/-- may a shard's number be, behind the one ahead? -/
def okId (ids : List Int) (k : Nat) : Bool := match ids[k]? with
  | some n => decide (1 ≤ n) && decide (n ≤ 1099511627775) && (decide (k = 0) || (match ids[k - 1]? with | some p => decide (p < n) | none => false))
  | none => false
def mayB (move : Int) (ids : List Int) : Bool := (List.range ids.length).all (okId ids) && (decide (0 ≤ move) && decide (move ≤ 1099511627775) && decide (ids.length ≤ 64))
theorem all_snoc (p : Nat → Bool) (i : Nat) (h : (List.range i).all p = true) (hp : p i = true) : (List.range (i + 1)).all p = true := by
  rw [List.range_succ, List.all_append, h]; simp [hp]
theorem all_not (p : Nat → Bool) {i n : Nat} (h : i < n) (hp : p i = false) : (List.range n).all p = false := by
  rw [List.all_eq_false]; exact ⟨i, List.mem_range.2 h, by simp [hp]⟩

theorem bmay_tri (move : Int) (ids : List Int) (hl : ids.length ≤ 1000000000) (X : List O) : Tri Tryz.prog 41 [.int .i64 move, .vs (ids.map encN) 1] X (fun v H => v = .bool (mayB move ids) ∧ H = X) := by
  refine Tri.of_run' Tryz.func41 rfl c41_ok (by simp [Tryz.ntmps41]) ?_
  (repeat (first | refine Run.adm rfl ?_ | refine Run.seq ?_ | ((first | apply Run.opS rfl | apply Run.condS); (· (simp -implicitDefEqProofs; first | exact ⟨rfl, rfl⟩ | exact rfl)))))
  refine Run.sl [(0, .int .i64 move), (1, .vs (ids.map encN) 1), (7, .vs (ids.map encN) 1), (8, .int .i64 ids.length), (9, .int .i64 (0 : Nat))] (by simp) ?_
  refine Run.loopS (fun (i : Nat) => ([(0, .int .i64 move), (1, .vs (ids.map encN) 1), (7, .vs (ids.map encN) 1), (8, .int .i64 ids.length), (9, .int .i64 i)], X))
    (fun i => i ≤ ids.length ∧ (List.range i).all (okId ids) = true) (fun i => ids.length - i) ?_ 0 ⟨Nat.zero_le _, rfl⟩
  rintro i ⟨hi, hall⟩ ih
  by_cases hlt : i < ids.length
  · obtain ⟨n, hn, hni, -, -⟩ := getL hlt
    have hlt' : (i : Int) < ids.length := by omega
    have hw := wrap_small (n := (i : Int) + 1) (by omega) (by omega)
    have hbad : okId ids i = false → ∀ {k t}, AtEnd k → t 4 = .bool false → Run ⟨Tryz.prog, 41, Tryz.f41.ntmps, X, fun v H => v = .bool (mayB move ids) ∧ H = X⟩ ⟨k, t, X⟩ := by
      intro hb k t hk h4
      refine Run.retS Tryz.func41 r41_ok hk (by simp [r41, h4]; rfl) ?_
      have : mayB move ids = false := by unfold mayB; rw [all_not _ hlt hb]; rfl
      exact ⟨by simp [this], rfl⟩
    by_cases h1 : n < 1
    · (repeat (first | refine Run.adm rfl ?_ | refine Run.seq ?_ | ((first | apply Run.opS rfl | apply Run.condS); (· (simp -implicitDefEqProofs [hlt, hlt', hn, hni, encN, h1]; first | exact ⟨rfl, rfl⟩ | exact rfl)))))
      exact hbad (by simp [okId, hn]; omega) trivial (by simp)
    by_cases h2 : 1099511627775 < n
    · (repeat (first | refine Run.adm rfl ?_ | refine Run.seq ?_ | ((first | apply Run.opS rfl | apply Run.condS); (· (simp -implicitDefEqProofs [hlt, hlt', hn, hni, encN, h1, h2]; first | exact ⟨rfl, rfl⟩ | exact rfl)))))
      exact hbad (by simp [okId, hn]; omega) trivial (by simp)
    by_cases h3 : i = 0
    · subst h3
      have hw0 := wrap_small (n := 1) (by omega) (by omega)
      (repeat (first | refine Run.adm rfl ?_ | refine Run.seq ?_ | ((first | apply Run.opS rfl | apply Run.condS); (· (simp -implicitDefEqProofs [hlt, hlt', hn, hni, encN, h1, h2]; first | exact ⟨rfl, rfl⟩ | exact rfl)))))
      refine Run.sl _ ?_ (ih 1 ⟨by omega, all_snoc _ _ hall (by simp [okId, hn]; omega)⟩ (by omega))
      simp [hw0]
    · obtain ⟨p, hp, hpi, -, -⟩ := getL (show i - 1 < ids.length by omega)
      have hpos : (0 : Int) < i := by omega
      have hpos' : 0 < i := by omega
      have hw1 : IntKind.i64.wrap ((i : Int) - 1) = ((i - 1 : Nat) : Int) := by rw [wrap_small (by omega) (by omega)]; omega
      have hlt1 : i - 1 < ids.length := by omega
      have hlt1' : ((i - 1 : Nat) : Int) < ids.length := by omega
      by_cases h4 : n ≤ p
      · (repeat (first | refine Run.adm rfl ?_ | refine Run.seq ?_ | ((first | apply Run.opS rfl | apply Run.condS); (· (simp -implicitDefEqProofs [hlt, hlt', hn, hni, encN, h1, h2, hpos, hpos', hw1, hp, hpi, hlt1, hlt1', h4]; first | exact ⟨rfl, rfl⟩ | exact rfl)))))
        exact hbad (by simp [okId, hn, hp, h3]; omega) trivial (by simp)
      · (repeat (first | refine Run.adm rfl ?_ | refine Run.seq ?_ | ((first | apply Run.opS rfl | apply Run.condS); (· (simp -implicitDefEqProofs [hlt, hlt', hn, hni, encN, h1, h2, hpos, hpos', hw1, hp, hpi, hlt1, hlt1', h4]; first | exact ⟨rfl, rfl⟩ | exact rfl)))))
        refine Run.sl _ ?_ (ih (i + 1) ⟨by omega, all_snoc _ _ hall (by simp [okId, hn, hp, h3]; omega)⟩ (by omega))
        simp [hw]
  · have : i = ids.length := by omega
    subst this
    by_cases h1 : 0 ≤ move
    · by_cases h2 : move ≤ 1099511627775
      · have hc : decide ((ids.length : Int) ≤ 64) = decide (ids.length ≤ 64) := by simp; omega
        (repeat (first | refine Run.adm rfl ?_ | refine Run.seq ?_ | ((first | apply Run.opS rfl | apply Run.condS); (· (simp -implicitDefEqProofs [h1, h2, hc]; first | exact ⟨rfl, rfl⟩ | exact rfl)))))
        refine Run.retS Tryz.func41 r41_ok trivial (by simp [r41]; rfl) ?_
        exact ⟨by simp [mayB, hall, h1, h2], rfl⟩
      · (repeat (first | refine Run.adm rfl ?_ | refine Run.seq ?_ | ((first | apply Run.opS rfl | apply Run.condS); (· (simp -implicitDefEqProofs [h1, h2]; first | exact ⟨rfl, rfl⟩ | exact rfl)))))
        refine Run.retS Tryz.func41 r41_ok trivial (by simp [r41]; rfl) ?_
        exact ⟨by simp [mayB, hall, h1, h2], rfl⟩
    · (repeat (first | refine Run.adm rfl ?_ | refine Run.seq ?_ | ((first | apply Run.opS rfl | apply Run.condS); (· (simp -implicitDefEqProofs [h1]; first | exact ⟨rfl, rfl⟩ | exact rfl)))))
      refine Run.retS Tryz.func41 r41_ok trivial (by simp [r41]; rfl) ?_
      exact ⟨by simp [mayB, hall, h1], rfl⟩

theorem take_eq_drop' {α} {a b : List α} {i : Nat} (ha : i < a.length) (hb : i < b.length) (h : a.take i = b.take i) (he : a[i] = b[i]) : a.take (i + 1) = b.take (i + 1) := by
  rw [List.take_add_one, List.take_add_one, h, List.getElem?_eq_getElem ha, List.getElem?_eq_getElem hb, he]
theorem samei_tri (a b : List Int) (hl : a.length ≤ 1000000000) : Tri Tryz.prog 14 [.vs (a.map encN) 1, .vs (b.map encN) 1] [] (fun v H => v = .bool (decide (a = b)) ∧ H = []) := by
  refine Tri.of_run' Tryz.func14 rfl c14_ok (by simp [Tryz.ntmps14]) ?_
  by_cases hlen : a.length = b.length
  rotate_left
  · have hlen' : ¬ (a.length : Int) = b.length := by omega
    have hne : ¬ a = b := fun h => hlen (by rw [h])
    (repeat (first | refine Run.adm rfl ?_ | refine Run.seq ?_ | ((first | apply Run.opS rfl | apply Run.condS); (· (simp -implicitDefEqProofs [hlen, hlen']; first | exact ⟨rfl, rfl⟩ | exact rfl)))))
    refine Run.retI Tryz.func14 r14_ok trivial (by simp -implicitDefEqProofs [r14]; rfl) (by simp ) ?_ (by simp -implicitDefEqProofs ) (by simp -implicitDefEqProofs )
    simp [hne]
  have hlen' : (a.length : Int) = b.length := by omega
  (repeat (first | refine Run.adm rfl ?_ | refine Run.seq ?_ | ((first | apply Run.opS rfl | apply Run.condS); (· (simp -implicitDefEqProofs [hlen, hlen']; first | exact ⟨rfl, rfl⟩ | exact rfl)))))
  refine Run.loopC [] (fun (i : Nat) => ([(0, .vs (a.map encN) 1), (1, .vs (b.map encN) 1), (5, .int .i64 i)], [])) (fun i => i ≤ a.length ∧ a.take i = b.take i) (fun i => a.length - i) 0 (by simp) (by rfl) (by decide) (by simp) (by simp) ?_
  rintro i ⟨hi, htk⟩ ih
  by_cases hlt : i < a.length
  · have hltb : i < b.length := by omega
    obtain ⟨x, hx, hxi, -, -⟩ := getL hlt
    obtain ⟨y, hy, hyi, -, -⟩ := getL hltb
    have hw := wrap_small (n := (i : Int) + 1) (by omega) (by omega)
    (repeat (first | refine Run.adm rfl ?_ | refine Run.seq ?_ | ((first | apply Run.opS rfl | apply Run.condS); (· (simp -implicitDefEqProofs [hlt]; first | exact ⟨rfl, rfl⟩ | exact rfl)))))
    refine Run.quietM prog_mixed (by kernel_rfl) [] [(0, .vs (a.map encN) 1), (1, .vs (b.map encN) 1), (5, .int .i64 i), (25, .bool (!decide (x = y)))] [] (by rfl) (by decide) ?_ ?_
    · (repeat (first | refine execQ_E rfl ?_ | (apply execQ_S rfl; (· (simp -implicitDefEqProofs [hlt, hltb, hx, hxi, hy, hyi, encN]; exact ⟨rfl, rfl⟩)))))
      simp
    by_cases hxy : x = y
    · (repeat (first | refine Run.adm rfl ?_ | refine Run.seq ?_ | ((first | apply Run.opS rfl | apply Run.condS); (· (simp -implicitDefEqProofs [hxy]; first | exact ⟨rfl, rfl⟩ | exact rfl)))))
      refine Run.mv [] _ _ (by rfl) (by decide) (by simp -implicitDefEqProofs [hw]) (by simp -implicitDefEqProofs [hw]) (ih (i + 1) ?_ ?_)
      · exact ⟨by omega, take_eq_drop' hlt hltb htk (by rw [hxi, hyi, hxy])⟩
      · omega
    · (repeat (first | refine Run.adm rfl ?_ | refine Run.seq ?_ | ((first | apply Run.opS rfl | apply Run.condS); (· (simp -implicitDefEqProofs [hxy]; first | exact ⟨rfl, rfl⟩ | exact rfl)))))
      refine Run.retI Tryz.func14 r14_ok trivial (by simp -implicitDefEqProofs [r14]; rfl) (by simp ) ?_ (by simp -implicitDefEqProofs ) (by simp -implicitDefEqProofs )
      have : ¬ a = b := by rintro rfl; rw [hxi] at hyi; exact hxy hyi
      simp [this]
  · have : i = a.length := by omega
    subst this
    (repeat (first | refine Run.adm rfl ?_ | refine Run.seq ?_ | ((first | apply Run.opS rfl | apply Run.condS); (· (simp -implicitDefEqProofs; first | exact ⟨rfl, rfl⟩ | exact rfl)))))
    refine Run.retI Tryz.func14 r14_ok trivial (by simp -implicitDefEqProofs [r14]; rfl) (by simp ) ?_ (by simp -implicitDefEqProofs ) (by simp -implicitDefEqProofs )
    have : a = b := by rw [List.take_length, List.take_of_length_le (by omega)] at htk; exact htk
    simp [this]
theorem samei_at (a b : List Int) (hl : a.length ≤ 1000000000) (H : List O) : Tri Tryz.prog 14 [.vs (a.map encN) 1, .vs (b.map encN) 1] H (fun v H' => v = .bool (decide (a = b)) ∧ H' = H) := (samei_tri a b hl).at rfl rfl H

/-- a number's bytes -/
def bnb (n : Int) : Bs := (vputM n).1
def bnbs (l : List Int) : Bs := l.flatMap bnb
theorem bnb_len (n : Int) : (bnb n).length ≤ 9 := vputM_len n
theorem bnbs_len (l : List Int) : (bnbs l).length ≤ l.length * 9 := by
  induction l with
  | nil => simp [bnbs]
  | cons n l ih =>
    have := bnb_len n
    simp only [bnbs, List.flatMap_cons, List.length_append, List.length_cons] at ih ⊢; omega
theorem bnbs_snoc {l : List Int} {i : Nat} {n : Int} (h : l[i]? = some n) : bnbs (l.take (i + 1)) = bnbs (l.take i) ++ bnb n := by
  rw [List.take_add_one, h]; simp [bnbs]
/-- a book's record -/
def recB (move : Int) (ids : List Int) : Bs := bnbs (move :: (ids.length : Int) :: ids)
def bookW (l : Bs) : List O := [.row (bldA 0 true 4 l.length), .gone, .ty 0 208 (some 2), .gone, .arr (byteEls l) 1, .ty 4 5 none]

theorem record_tri (move : Int) (ids : List Int) (hl : ids.length ≤ 100000) : Tri Tryz.prog 80 [.int .i64 move, .vs (ids.map encN) 1] [] (fun v H => v = .str (recB move ids) ∧ H = []) := by
  refine Tri.of_run' Tryz.func80 rfl c80_ok (by simp [Tryz.ntmps80]) ?_
  have hbb : (2 + ids.length) * 8 ≤ 70368744177664 := by omega
  have hln : ((move :: (ids.length : Int) :: ids).map encN).length = 2 + ids.length := by simp; omega
  (repeat (first | refine Run.adm rfl ?_ | refine Run.seq ?_ | ((first | apply Run.opS rfl | apply Run.condS); (· (simp -implicitDefEqProofs [hbb]; first | exact ⟨rfl, rfl⟩ | exact rfl)))))
  refine Run.nilC 0 1 1 5 (by simp; rfl) (by simp) ?_
  refine Run.freeze 3 (es := (move :: (ids.length : Int) :: ids).map encN) (sz := 1) (by simp [encN]) ?_
  have hnl : (move :: (ids.length : Int) :: ids).length = 2 + ids.length := by simp; omega
  have hne : (move :: (ids.length : Int) :: ids) ≠ [] := by simp
  have hrec : recB move ids = bnbs (move :: (ids.length : Int) :: ids) := rfl
  rw [hrec]
  have hfst : (move :: (ids.length : Int) :: ids)[0]? = some move := rfl
  have hl0 : (bnb move) ≠ [] → True := fun _ => trivial
  generalize hns : (move :: (ids.length : Int) :: ids) = ns at *
  have hnl2 : ((2 : Int) + ids.length) = ns.length := by omega
  have htk0 : (ns.map encN).take (2 + ids.length) = ns.map encN := List.take_of_length_le (by simp [hnl])
  have hle0 : 2 + ids.length ≤ ns.length := by omega
  refine Run.mv [0, 4, 1, 5] [(5, .ptr 0 0), (15, .vs (ns.map encN) 1), (16, .int .i64 ns.length), (17, .int .i64 (0 : Nat))] (bldH false []) (by rfl) (by decide) (by simp [hnl2, htk0, hle0]) (by simp [bldH, bldA, byteEls]) ?_
  refine Run.loopC [0, 1, 2, 3] (fun (i : Nat) => ([(5, .ptr 0 0), (15, .vs (ns.map encN) 1), (16, .int .i64 ns.length), (17, .int .i64 i)], if i = 0 then bldH false [] else bookW (bnbs (ns.take i)))) (fun i => i ≤ ns.length) (fun i => ns.length - i) 0 (by simp) (by rfl) (by decide) (by simp) (by simp [bldH, bldA]) ?_
  intro i hi ih
  by_cases hlt : i < ns.length
  · obtain ⟨n, hn, hni, -, -⟩ := getL hlt
    have hw := wrap_small (n := (i : Int) + 1) (by omega) (by omega)
    have hsn := bnbs_snoc hn
    have hl1 := bnbs_len (ns.take i)
    have hl2 : (ns.take i).length = i := by rw [List.length_take]; omega
    have hl3 := bnb_len n
    by_cases hz : i = 0
    · subst hz
      rw [if_pos rfl]
      have hw0 := wrap_small (n := 1) (by omega) (by omega)
      have hz0 : bnbs [] = [] := rfl
      (repeat (first | refine Run.adm rfl ?_ | refine Run.seq ?_ | ((first | apply Run.opS rfl | apply Run.condS); (· (simp -implicitDefEqProofs [hlt, hn, hni, encN]; first | exact ⟨rfl, rfl⟩ | exact rfl)))))
      refine Run.opC rfl rfl rfl (vput_at n _) ?_
      rintro v h' ⟨rfl, rfl⟩
      (repeat (first | refine Run.adm rfl ?_ | refine Run.seq ?_ | ((first | apply Run.opS rfl | apply Run.condS); (· (simp -implicitDefEqProofs; first | exact ⟨rfl, rfl⟩ | exact rfl)))))
      refine Run.opF [0, 1, 2, 3] (writeString_tri false [] (bnb n) (by simp; omega)) rfl (by simp -implicitDefEqProofs [bldH, bldA, bnb]) rfl (by simp -implicitDefEqProofs [bldH, bldA, bnb]) (by decide) (by rfl) (by simp -implicitDefEqProofs [bldH, bldA, bnb]) ?_
      rintro v0 Hs' ⟨rfl, rfl⟩
      (repeat (first | refine Run.adm rfl ?_ | refine Run.seq ?_ | ((first | apply Run.opS rfl | apply Run.condS); (· (simp -implicitDefEqProofs; first | exact ⟨rfl, rfl⟩ | exact rfl)))))
      refine Run.mv [0, 1, 2, 3, 4, 5] _ _ (by rfl) (by decide) (by simp -implicitDefEqProofs [hw0, bldA, bookW, bldH, hsn, hz0]) (by simp -implicitDefEqProofs [hw0, bldA, bookW, bldH, hsn, hz0]) (ih (1) ?_ ?_)
      · omega
      · omega
    · rw [if_neg hz]
      (repeat (first | refine Run.adm rfl ?_ | refine Run.seq ?_ | ((first | apply Run.opS rfl | apply Run.condS); (· (simp -implicitDefEqProofs [hlt, hn, hni, encN]; first | exact ⟨rfl, rfl⟩ | exact rfl)))))
      refine Run.opC rfl rfl rfl (vput_at n _) ?_
      rintro v h' ⟨rfl, rfl⟩
      (repeat (first | refine Run.adm rfl ?_ | refine Run.seq ?_ | ((first | apply Run.opS rfl | apply Run.condS); (· (simp -implicitDefEqProofs [bookW]; first | exact ⟨rfl, rfl⟩ | exact rfl)))))
      refine Run.opF [0, 4, 2, 5] (writeString_tri true (bnbs (ns.take i)) (bnb n) (by omega)) rfl (by simp -implicitDefEqProofs [bldH, bldA, bookW, bnb]) rfl (by simp -implicitDefEqProofs [bldH, bldA, bookW, bnb]) (by decide) (by rfl) (by simp -implicitDefEqProofs [bldH, bldA, bookW, bnb]) ?_
      rintro v0 Hs' ⟨rfl, rfl⟩
      (repeat (first | refine Run.adm rfl ?_ | refine Run.seq ?_ | ((first | apply Run.opS rfl | apply Run.condS); (· (simp -implicitDefEqProofs; first | exact ⟨rfl, rfl⟩ | exact rfl)))))
      refine Run.mv [0, 1, 2, 3, 6, 7] _ _ (by rfl) (by decide) (by simp -implicitDefEqProofs [hw, bldA, bookW, hsn]) (by simp -implicitDefEqProofs [hw, bldA, bookW, hsn]) (ih (i + 1) ?_ ?_)
      · omega
      · omega
  · have : i = ns.length := by omega
    subst this
    rw [if_neg (by rw [hnl]; omega), List.take_length]
    have hbn : bnbs ns ≠ [] := by
      rw [← hns]
      intro h0
      simp only [bnbs, List.flatMap_cons, List.append_eq_nil_iff] at h0
      have h1 := h0.2.1
      rw [bnb, vputM, if_pos (by omega)] at h1
      exact vput_ne _ h1
    have hl1 := bnbs_len ns
    (repeat (first | refine Run.adm rfl ?_ | refine Run.seq ?_ | ((first | apply Run.opS rfl | apply Run.condS); (· (simp -implicitDefEqProofs [bookW]; first | exact ⟨rfl, rfl⟩ | exact rfl)))))
    refine Run.opF [0, 4, 2, 5] (string_tri (bnbs ns) hbn (by omega)) rfl (by simp -implicitDefEqProofs [bldH, bldA]) rfl (by simp -implicitDefEqProofs [bldH, bldA]) (by decide) (by rfl) (by simp -implicitDefEqProofs [bldH, bldA]) ?_
    rintro v0 Hs' ⟨rfl, rfl⟩
    (repeat (first | refine Run.adm rfl ?_ | refine Run.seq ?_ | ((first | apply Run.opS rfl | apply Run.condS); (· (simp -implicitDefEqProofs; first | exact ⟨rfl, rfl⟩ | exact rfl)))))
    refine Run.mv [] [(4, .str (bnbs ns))] [] (by rfl) (by decide) (by simp -implicitDefEqProofs) (by simp -implicitDefEqProofs) ?_
    refine Run.retI Tryz.func80 r80_ok trivial (by simp -implicitDefEqProofs [r80]; rfl) (by simp ) ?_ (by simp -implicitDefEqProofs ) (by simp -implicitDefEqProofs )
    simp
theorem record_at (move : Int) (ids : List Int) (hl : ids.length ≤ 100000) (H : List O) : Tri Tryz.prog 80 [.int .i64 move, .vs (ids.map encN) 1] H (fun v H' => v = .str (recB move ids) ∧ H' = H) := (record_tri move ids hl).at rfl rfl H

end Go.Proofs.YthphkcpbglhabaaGreatDoor
