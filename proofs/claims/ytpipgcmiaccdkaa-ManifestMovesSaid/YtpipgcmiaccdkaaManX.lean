/-
  Layer 12, part X: the program's Apply.
-/
import Derived.Test.YtpipgcmiaccdkaaManW
namespace Go.Proofs.Ytpipgcmiaccdkaa
open Sx Go
set_option maxRecDepth 100000
set_option linter.unusedSimpArgs false
set_option linter.unusedVariables false
set_option linter.unnecessarySimpa false
attribute [local simp] stepV condR boundsC appendG appendO copyV srcC guardB isCall opStep Opd.ev put readAt aBin aUn args0 V.celled V.ones V.one V.cells putAt bounds bound1 elemsOf srcOf appendV fillAt fillEl V.pures V.pure unwind evs ARes.ev mkRes V.ren V.renL O.ren eqCells eq1 aEq aMM hasTy hasTyN okTy mmGo Known HLe OLe VsLe.refl VLe.refl VLe.cap Stay VsLe V.frz V.frzL O.frz fr clearV rn KnownR Objs OLeO ObjsE nm back setAll ren_ite take_map_len List.take_of_length_le
attribute [local simp ↓] upd_app tl_cons tl_nil
attribute [local simp] encT_ren encT_ones encT_len encT_take encN_ren encN_ones encN_len encN_take
attribute [local simp] encE_ren encE_len encE_take encZ_ren encZ_len encZ_take

/-- a map from numbers to true, as told -/
def mE (k : Int) : V × V := (.int .i64 k, .bool true)
theorem mE_comp (ρ) : (fun x : V × V => (x.1, V.ren ρ x.2)) ∘ mE = mE := rfl
theorem mFind_mem (k : Int) : ∀ (K : List Int) (i : Nat), (k ∈ K → ∃ j, mFind 0 (.int .i64 k) (K.map mE) i = some (some (i + j)) ∧ K[j]? = some k) ∧ (k ∉ K → mFind 0 (.int .i64 k) (K.map mE) i = some none)
  | [], i => ⟨fun h => by simp at h, fun _ => rfl⟩
  | q :: K, i => by
    have ih := mFind_mem k K (i + 1)
    by_cases h : k = q
    · subst h
      exact ⟨fun _ => ⟨0, by simp [mFind, mE, kEq], rfl⟩, fun h => by simp at h⟩
    · refine ⟨fun hm => ?_, fun hm => ?_⟩
      · obtain ⟨j, h1, h2⟩ := ih.1 (by simpa [h] using hm)
        refine ⟨j + 1, ?_, by simpa using h2⟩
        simp only [List.map_cons, mFind, mE, kEq, if_true, h, decide_false]
        rw [h1]; congr 2; omega
      · have := ih.2 (by simp at hm; exact hm.2)
        simp only [List.map_cons, mFind, mE, kEq, if_true, h, decide_false]
        rw [this]
theorem mE_set {K : List Int} {k : Int} {j : Nat} (h : K[j]? = some k) : (K.map mE).set j (.int .i64 k, .bool true) = K.map mE := by
  apply List.ext_getElem?
  intro i
  rw [List.getElem?_set]
  split
  · rename_i hij; subst hij; rw [List.getElem?_map, h]; split <;> first | rfl | (rename_i hh; rw [List.length_map] at hh; exact absurd (List.getElem?_eq_some_iff.1 h).1 hh)
  · rfl
/-- one key more -/
def addK (K : List Int) (k : Int) : List Int := if k ∈ K then K else K ++ [k]
theorem addK_mem {K : List Int} {k q : Int} : q ∈ addK K k ↔ q ∈ K ∨ q = k := by
  unfold addK; split
  · rename_i h; exact ⟨.inl, fun h' => by rcases h' with h' | rfl <;> assumption⟩
  · simp
def addAll (K l : List Int) : List Int := l.foldl addK K
theorem addAll_mem {q : Int} : ∀ {l K : List Int}, q ∈ addAll K l ↔ q ∈ K ∨ q ∈ l
  | [], K => by simp [addAll]
  | x :: l, K => by
    show q ∈ addAll (addK K x) l ↔ _
    rw [addAll_mem (l := l), addK_mem]; simp [or_assoc]
theorem addAll_snoc {K l : List Int} {i : Nat} {x : Int} (h : l[i]? = some x) : addAll K (l.take (i + 1)) = addK (addAll K (l.take i)) x := by
  rw [take_snoc h, addAll, List.foldl_append]; rfl

abbrev RunP (s : St) (e : Ed) (c : Cfg) : Prop := Run ⟨Try.prog, 18, Try.f18.ntmps, [], fun v H => v = .tup [.agg (encZ (applyR s e).1), .int .i64 (applyR s e).2] ∧ H = []⟩ c

theorem pa_bad {s : St} {e : Ed} (hm : mayE e = true) (hn : ¬ okA s e) {k : List AItem} {t : T} {h : List O} (hk : AtEnd k) (h4 : t 4 = .ptr 2 0) (h5 : t 5 = .int .i64 120) (ho : h[2]? = some (.row [.nils, .int .i64 0, .int .i64 0])) : RunP s e ⟨k, t, h⟩ := by
  refine Run.mv [2] [(4, .ptr 0 0), (5, .int .i64 120)] [.row (encZ z0)] (by rfl) (by decide) (by simp [h4, h5]) (by simp [ho, encZ, z0, VLe.nils]) ?_
  refine Run.ret0 rfl Try.func18 r18_ok hk (by simp [r18]; rfl) ?_ (by simp [encZ, z0])
  have : applyR s e = (z0, 120) := by rw [applyR, if_pos hm, if_neg hn]
  simp [this]

def k18e : AC := (AC.seq (AC.seq (AC.region c18r39) (AC.cond (Opd.t 163) (AC.seq (AC.region c18r40) AC.ret) AC.skip)) (AC.seq (AC.region c18r41) AC.ret))
def k18d : AC := (AC.seq (AC.region c18r33) (AC.seq (AC.seq (AC.region c18r34) (AC.block 8 (AC.loop c18l4))) k18e))
def k18c : AC := (AC.seq (AC.seq (AC.region c18r25) (AC.block 6 (AC.loop c18l3))) k18d)
def k18b : AC := (AC.seq (AC.region c18r18) (AC.seq (AC.seq (AC.region c18r19) (AC.block 4 (AC.loop c18l2))) k18c))
def k18a : AC := (AC.seq (AC.region c18r10) (AC.seq (AC.seq (AC.region c18r11) (AC.block 2 (AC.loop c18l1))) k18b))

/-- the state that is made -/
def outH (e : Ed) (j : Nat) (Z : List Tb) : List O := [.row [.sl j 0 Z.length 4 none, .int .i64 e.log, .int .i64 e.next], .arr (Z.map encT) 4]

theorem pa_e {s : St} {e : Ed} (hm : mayE e = true) (hg : GoodT s.tabs) (h3 : dropsOk s e) (h4 : addsOk s e) {Z : List Tb} (hp : Z.Perm (kept s e ++ e.add)) (hs : Srt Z) (hz : ApartP Z) :
    RunP s e ⟨[.code k18e], tl [(2, .ptr 0 0), (3, .ptr 1 0), (4, .ptr 2 0), (13, .ptr 3 0)], raH s e ++ outH e 4 Z⟩ := by
  have hb := sorted_is hm hg h4 hp hs hz
  have ha := (apart_is hp).1 hz
  unfold k18e raH outH
  by_cases h1 : s.log ≤ e.log
  rotate_left
  · have h1' : e.log < s.log := by omega
    (repeat (first | refine Run.adm rfl ?_ | refine Run.seq ?_ | (apply Run.opS rfl; (· (simp -implicitDefEqProofs [encE, encZ, h1']; exact ⟨rfl, rfl⟩))) | (apply Run.condS; (· (simp -implicitDefEqProofs [encE, encZ, h1']; exact rfl)))))
    exact pa_bad hm (fun h => h1 h.1) trivial (by simp) (by simp) (by simp)
  have h1' : ¬ e.log < s.log := by omega
  by_cases h2 : s.next ≤ e.next
  rotate_left
  · have h2' : e.next < s.next := by omega
    (repeat (first | refine Run.adm rfl ?_ | refine Run.seq ?_ | (apply Run.opS rfl; (· (simp -implicitDefEqProofs [encE, encZ, h1', h2']; exact ⟨rfl, rfl⟩))) | (apply Run.condS; (· (simp -implicitDefEqProofs [encE, encZ, h1', h2']; exact rfl)))))
    exact pa_bad hm (fun h => h2 h.2.1) trivial (by simp) (by simp) (by simp)
  have h2' : ¬ e.next < s.next := by omega
  have hok : applyR s e = (⟨Z, e.log, e.next⟩, 0) := by rw [applyR, if_pos hm, if_pos ⟨h1, h2, h3, h4, ha⟩, hb]
  (repeat (first | refine Run.adm rfl ?_ | refine Run.seq ?_ | (apply Run.opS rfl; (· (simp -implicitDefEqProofs [encE, encZ, h1', h2']; exact ⟨rfl, rfl⟩))) | (apply Run.condS; (· (simp -implicitDefEqProofs [encE, encZ, h1', h2']; exact rfl)))))
  refine Run.freeze 4 (es := Z.map encT) (sz := 4) (by simp) ?_
  refine Run.mv [2] [(4, .ptr 0 0), (5, .int .i64 0)] [.row (encZ ⟨Z, e.log, e.next⟩)] (by rfl) (by decide) (by simp -implicitDefEqProofs [encZ]) (by simp -implicitDefEqProofs [encZ]) ?_
  refine Run.ret0 rfl Try.func18 r18_ok trivial (by simp [r18]; rfl) ?_ (by simp [encZ])
  simp [hok]

theorem pa_d {s : St} {e : Ed} (hm : mayE e = true) (hg : GoodT s.tabs) (h3 : dropsOk s e) (h4 : addsOk s e) (hl : s.tabs.length ≤ 500000) :
    RunP s e ⟨[.code k18d], tl [(2, .ptr 0 0), (3, .ptr 1 0), (4, .ptr 2 0), (13, .ptr 3 0)], raH s e ++ outH e 4 (kept s e ++ e.add)⟩ := by
  have hal : e.add.length ≤ 128 := (mayE_spec hm).1
  have hkl : (kept s e).length ≤ s.tabs.length := List.length_filter_le _ _
  have hall := (all_good hm hg h4).2
  have hwl : (kept s e ++ e.add).length ≤ 1000000 := by rw [List.length_append]; omega
  have he := fun Z hp hs hz => pa_e (s := s) (e := e) hm hg h3 h4 (Z := Z) hp hs hz
  have haw := fun Z hp => apart_is (s := s) (e := e) (Z := Z) hp
  unfold k18d
  obtain ⟨K, hK⟩ : ∃ K, K = k18e := ⟨_, rfl⟩
  rw [← hK] at he ⊢
  generalize kept s e ++ e.add = W at *
  unfold raH outH
  have hst := sort_tri W hwl
  (repeat (first | refine Run.adm rfl ?_ | refine Run.seq ?_ | (apply Run.opS rfl; (· (simp -implicitDefEqProofs [encZ, encE]; exact ⟨rfl, rfl⟩))) | (apply Run.condS; (· (simp -implicitDefEqProofs [encZ, encE]; exact rfl)))))
  refine Run.opF [4] (hst) rfl (by simp -implicitDefEqProofs) rfl (by simp -implicitDefEqProofs) (by decide) (by rfl) (by simp -implicitDefEqProofs) ?_
  rintro v0 Hs' ⟨rfl, Z, hzp, hzs, rfl⟩
  have hzl := hzp.length_eq
  have hzt : ∀ t ∈ Z, tabB t = true := fun t ht => hall t (hzp.mem_iff.1 ht)
  have he' := he Z hzp hzs
  have hax := haw Z hzp
  rw [← hzl]
  rw [← hzl] at hwl
  clear he haw hst hall hzp hzl
  unfold raH outH at he'
  have h0 : Run ⟨Try.prog, 18, Try.f18.ntmps, [], fun v H => v = .tup [.agg (encZ (applyR s e).1), .int .i64 (applyR s e).2] ∧ H = []⟩ ⟨[.code (.loop c18l4), .endB 8, .code K], tl [(2, .ptr 0 0), (3, .ptr 1 0), (4, .ptr 2 0), (13, .ptr 3 0), (18, .int .i64 1)], [.row (encZ s), .row (encE e), .row [.nils, .int .i64 0, .int .i64 0]] ++ [.row [.sl 4 0 Z.length 4 none, .int .i64 e.log, .int .i64 e.next], .arr (Z.map encT) 4]⟩ := by
    refine Run.loopC [0, 1, 2, 3, 4] (fun (i : Nat) => ([(2, .ptr 0 0), (3, .ptr 1 0), (4, .ptr 2 0), (13, .ptr 3 0), (18, .int .i64 ((i + 1 : Nat) : Int))], [.row (encZ s), .row (encE e), .row [.nils, .int .i64 0, .int .i64 0]] ++ [.row [.sl 4 0 Z.length 4 none, .int .i64 e.log, .int .i64 e.next], .arr (Z.map encT) 4]))
      (fun i => i ≤ Z.length ∧ ∀ j a b, j < i → Z[j]? = some a → Z[j + 1]? = some b → nbOk a b = true) (fun i => Z.length - i) 0 ⟨Nat.zero_le _, fun j a b h => by omega⟩ (by rfl) (by decide) (by simp) (by simp [encZ, encE]) ?_
    rintro i ⟨hi, hgo⟩ ih
    obtain ⟨m, hmm⟩ : ∃ m, m = i + 1 := ⟨_, rfl⟩
    rw [← hmm]
    by_cases hlt : m < Z.length
    · have hlt' : (m : Int) < Z.length := by omega
      have hlti : i < Z.length := by omega
      have hlti' : (i : Int) < Z.length := by omega
      obtain ⟨a, ha, hai, -, -⟩ := getL hlti
      obtain ⟨b, hb, hbi, -, -⟩ := getL hlt
      have hw : IntKind.i64.wrap ((m : Int) - 1) = (i : Int) := by rw [wrap_small (by omega) (by omega)]; omega
      have hw1 : IntKind.i64.wrap ((m : Int) + 1) = ((i + 1 + 1 : Nat) : Int) := by rw [wrap_small (by omega) (by omega)]; omega
      have hb1 : Z[i + 1]? = some b := by rw [← hmm]; exact hb
      have hih : nbOk a b = true → _ := fun h => ih (i + 1) ⟨by omega, fun j x y hj hx hy => by
        by_cases hji : j < i
        · exact hgo j x y hji hx hy
        · obtain rfl : j = i := by omega
          rw [ha] at hx; rw [hb1] at hy; cases hx; cases hy; exact h⟩ (by omega)
      have hbad : nbOk a b = false → ¬ okA s e := fun h hok => by
        have := nb_apart hzs hzt (hax.2 hok.2.2.2.2) ha hb1
        rw [h] at this; cases this
      clear ih hgo
      have hafter : RunP s e ⟨[.code (.seq (.region c18r36) (.cond (.t 150) (.seq (.region c18r37) .ret) .skip)), .endB 9, .code (.region c18r38), .inLoop c18l4, .endB 8, .code K], tl [(2, .ptr 0 0), (3, .ptr 1 0), (4, .ptr 2 0), (13, .ptr 3 0), (18, .int .i64 m), (19, .ptr 5 0), (20, .ptr 6 0)], [.row (encZ s), .row (encE e), .row [.nils, .int .i64 0, .int .i64 0]] ++ [.row [.sl 4 0 Z.length 4 none, .int .i64 e.log, .int .i64 e.next], .arr (Z.map encT) 4, .row (encT a), .row (encT b)]⟩ := by
        have hn : nbOk a b = !(decide (0 < a.level) && decide (a.level = b.level) && !Op.bytesLess a.hi b.lo) := rfl
        by_cases c1 : 0 < a.level
        rotate_left
        · have hk := hih (by simp [hn, c1])
          (repeat (first | refine Run.adm rfl ?_ | refine Run.seq ?_ | (apply Run.opS rfl; (· (simp -implicitDefEqProofs [encT, c1, hw1]; exact ⟨rfl, rfl⟩))) | (apply Run.condS; (· (simp -implicitDefEqProofs [encT, c1, hw1]; exact rfl)))))
          refine Run.mv [0, 1, 2, 3, 4] _ _ (by rfl) (by decide) ?_ ?_ hk
          · simp
          · simp [encZ, encE]
        by_cases c2 : a.level = b.level
        rotate_left
        · have hk := hih (by simp [hn, c2])
          (repeat (first | refine Run.adm rfl ?_ | refine Run.seq ?_ | (apply Run.opS rfl; (· (simp -implicitDefEqProofs [encT, c1, c2, hw1]; exact ⟨rfl, rfl⟩))) | (apply Run.condS; (· (simp -implicitDefEqProofs [encT, c1, c2, hw1]; exact rfl)))))
          refine Run.mv [0, 1, 2, 3, 4] _ _ (by rfl) (by decide) ?_ ?_ hk
          · simp
          · simp [encZ, encE]
        have c1b : 0 < b.level := by omega
        cases c3 : Op.bytesLess a.hi b.lo with
        | true =>
          have hk := hih (by simp [hn, c3])
          (repeat (first | refine Run.adm rfl ?_ | refine Run.seq ?_ | (apply Run.opS rfl; (· (simp -implicitDefEqProofs [encT, c1, c1b, c2, bless_le, c3, hw1]; exact ⟨rfl, rfl⟩))) | (apply Run.condS; (· (simp -implicitDefEqProofs [encT, c1, c1b, c2, bless_le, c3, hw1]; exact rfl)))))
          refine Run.mv [0, 1, 2, 3, 4] _ _ (by rfl) (by decide) ?_ ?_ hk
          · simp
          · simp [encZ, encE]
        | false =>
          (repeat (first | refine Run.adm rfl ?_ | refine Run.seq ?_ | (apply Run.opS rfl; (· (simp -implicitDefEqProofs [encT, c1, c1b, c2, bless_le, c3]; exact ⟨rfl, rfl⟩))) | (apply Run.condS; (· (simp -implicitDefEqProofs [encT, c1, c1b, c2, bless_le, c3]; exact rfl)))))
          exact pa_bad hm (hbad (by simp [hn, c1b, c2, c3])) trivial (by simp) (by simp) (by simp)
      (repeat (first | refine Run.adm rfl ?_ | refine Run.seq ?_ | (apply Run.opS rfl; (· (simp -implicitDefEqProofs [hlt, hlt']; exact ⟨rfl, rfl⟩))) | (apply Run.condS; (· (simp -implicitDefEqProofs [hlt, hlt']; exact rfl)))))
      refine Run.drawn prog_mixed ?_
      show RunD _ c18d0 [0, 1, 2, 3, 4, 5, 6, 7, 8, 9, 10, 11, 12, 13, 14] [] _ _ _
      refine RunD.flow [0, 1, 2, 3, 4, 5, 6, 7, 8, 9, 10] (by kernel_rfl) (by decide +kernel) (by decide +kernel) (by decide) trivial ?_; (repeat (first | refine execQ_E rfl ?_ | (apply execQ_S rfl; (· (simp -implicitDefEqProofs [hw, hlt, hlt', hlti, hlti', ha, hai, hb, hbi, encT]; exact ⟨rfl, rfl⟩))))); intro hpo
      refine RunD.alt2 11 12 (by kernel_rfl) (by kernel_rfl) hpo ?_ ?_
      · (apply AStep.S rfl; (· (simp -implicitDefEqProofs; exact ⟨rfl, rfl⟩)))
        refine RunD.alt1 12 (by kernel_rfl) (by kernel_rfl) (by
          show PendOk _ c18d0 _ _ [10, 9, 8, 7, 6, 5, 4, 3, 2, 1, 0]
          (repeat (first | exact PendOk.nil | (refine PendOk.S rfl rfl ?_ ?_; (· (simp -implicitDefEqProofs [hw, hlt, hlt', hlti, hlti', ha, hai, hb, hbi, encT]; done)))))) ?_
        (apply AStep.S rfl; (· (simp -implicitDefEqProofs; exact ⟨rfl, rfl⟩)))
        refine RunD.alt1 13 (by kernel_rfl) (by kernel_rfl) (by
          show PendOk _ c18d0 _ _ [10, 9, 8, 7, 6, 5, 4, 3, 2, 1, 0]
          (repeat (first | exact PendOk.nil | (refine PendOk.S rfl rfl ?_ ?_; (· (simp -implicitDefEqProofs [hw, hlt, hlt', hlti, hlti', ha, hai, hb, hbi, encT]; done)))))) ?_
        (apply AStep.S rfl; (· (simp -implicitDefEqProofs; exact ⟨rfl, rfl⟩)))
        refine RunD.alt1 14 (by kernel_rfl) (by kernel_rfl) (by
          show PendOk _ c18d0 _ _ [10, 9, 8, 7, 6]
          (repeat (first | exact PendOk.nil | (refine PendOk.S rfl rfl ?_ ?_; (· (simp -implicitDefEqProofs [hw, hlt, hlt', hlti, hlti', ha, hai, hb, hbi, encT]; done)))))) ?_
        (apply AStep.S rfl; (· (simp -implicitDefEqProofs; exact ⟨rfl, rfl⟩)))
        refine RunD.fin (by kernel_rfl) (by trivial) ?_
        refine Run.mv [0, 1, 2, 3, 4, 5, 6] _ _ (by rfl) (by decide) ?_ ?_ hafter
        · simp
        · simp [encZ, encE, encT]
      · (apply AStep.S rfl; (· (simp -implicitDefEqProofs; exact ⟨rfl, rfl⟩)))
        refine RunD.alt1 11 (by kernel_rfl) (by kernel_rfl) (by
          show PendOk _ c18d0 _ _ [10, 9, 8, 7, 6, 5, 4, 3, 2, 1, 0]
          (repeat (first | exact PendOk.nil | (refine PendOk.S rfl rfl ?_ ?_; (· (simp -implicitDefEqProofs [hw, hlt, hlt', hlti, hlti', ha, hai, hb, hbi, encT]; done)))))) ?_
        (apply AStep.S rfl; (· (simp -implicitDefEqProofs; exact ⟨rfl, rfl⟩)))
        refine RunD.alt1 13 (by kernel_rfl) (by kernel_rfl) (by
          show PendOk _ c18d0 _ _ [10, 9, 8, 7, 6, 5, 4, 3, 2, 1, 0]
          (repeat (first | exact PendOk.nil | (refine PendOk.S rfl rfl ?_ ?_; (· (simp -implicitDefEqProofs [hw, hlt, hlt', hlti, hlti', ha, hai, hb, hbi, encT]; done)))))) ?_
        (apply AStep.S rfl; (· (simp -implicitDefEqProofs; exact ⟨rfl, rfl⟩)))
        refine RunD.alt1 14 (by kernel_rfl) (by kernel_rfl) (by
          show PendOk _ c18d0 _ _ [10, 9, 8, 7, 6]
          (repeat (first | exact PendOk.nil | (refine PendOk.S rfl rfl ?_ ?_; (· (simp -implicitDefEqProofs [hw, hlt, hlt', hlti, hlti', ha, hai, hb, hbi, encT]; done)))))) ?_
        (apply AStep.S rfl; (· (simp -implicitDefEqProofs; exact ⟨rfl, rfl⟩)))
        refine RunD.fin (by kernel_rfl) (by trivial) ?_
        refine Run.mv [0, 1, 2, 3, 4, 6, 5] _ _ (by rfl) (by decide) ?_ ?_ hafter
        · simp
        · simp [encZ, encE, encT]
    · have hlt' : ¬ (m : Int) < Z.length := by omega
      have hap : ApartP Z := by
        refine apart_nb hzs hzt fun j a b hx hy => ?_
        have h5 : j + 1 < Z.length := (List.getElem?_eq_some_iff.1 hy).1
        exact hgo j a b (by omega) hx hy
      clear ih
      (repeat (first | refine Run.adm rfl ?_ | refine Run.seq ?_ | (apply Run.opS rfl; (· (simp -implicitDefEqProofs [hlt, hlt']; exact ⟨rfl, rfl⟩))) | (apply Run.condS; (· (simp -implicitDefEqProofs [hlt, hlt']; exact rfl)))))
      refine Run.mv [0, 1, 2, 3, 4] _ _ (by rfl) (by decide) ?_ ?_ (he' hap)
      · simp
      · simp [encZ, encE]
  (repeat (first | refine Run.adm rfl ?_ | refine Run.seq ?_ | (apply Run.opS rfl; (· (simp -implicitDefEqProofs; exact ⟨rfl, rfl⟩))) | (apply Run.condS; (· (simp -implicitDefEqProofs; exact rfl)))))
  refine Run.mv [0, 1, 2, 3, 4] _ _ (by rfl) (by decide) ?_ ?_ h0
  · simp
  · simp [encZ, encE]

/-- looking into the map -/
theorem mget_in {k : Int} {K : List Int} (h : k ∈ K) : ∃ j, mFind 0 (.int .i64 k) (K.map mE) 0 = some (some j) ∧ K[j]? = some k ∧ (K.map mE)[j]? = some (.int .i64 k, .bool true) := by
  obtain ⟨j, h1, h2⟩ := (mFind_mem k K 0).1 h
  exact ⟨j, by simpa using h1, h2, by rw [List.getElem?_map, h2]; rfl⟩
theorem mget_out {k : Int} {K : List Int} (h : k ∉ K) : mFind 0 (.int .i64 k) (K.map mE) 0 = some none := (mFind_mem k K 0).2 h

theorem pa_c {s : St} {e : Ed} (hm : mayE e = true) (hg : GoodT s.tabs) (h3 : dropsOk s e) (hl : s.tabs.length ≤ 500000) {K0 : List Int} (hK0 : ∀ q, q ∈ K0 ↔ hasId s.tabs q = true) :
    RunP s e ⟨[.code k18c], tl [(2, .ptr 0 0), (3, .ptr 1 0), (4, .ptr 2 0), (7, .mp 3), (13, .ptr 4 0)], raH s e ++ .map (K0.map mE) :: outH e 5 (kept s e)⟩ := by
  have hal : e.add.length ≤ 128 := (mayE_spec hm).1
  have hkl : (kept s e).length ≤ s.tabs.length := List.length_filter_le _ _
  have hd := fun h4 => pa_d hm hg h3 h4 hl
  unfold k18c
  obtain ⟨K, hK⟩ : ∃ K, K = k18d := ⟨_, rfl⟩
  rw [← hK] at hd ⊢
  generalize kept s e = W at *
  unfold raH outH
  (repeat (first | refine Run.adm rfl ?_ | refine Run.seq ?_ | (apply Run.opS rfl; (· (simp -implicitDefEqProofs [encZ, encE]; exact ⟨rfl, rfl⟩))) | (apply Run.condS; (· (simp -implicitDefEqProofs [encZ, encE]; exact rfl)))))
  refine Run.loopC [0, 1, 2, 3, 4, 5] (fun (i : Nat) => ([(2, .ptr 0 0), (3, .ptr 1 0), (4, .ptr 2 0), (7, .mp 3), (13, .ptr 4 0), (85, .vs (e.add.map encT) 4), (86, .int .i64 e.add.length), (87, .int .i64 i)], raH s e ++ .map ((addAll K0 ((e.add.map (·.id)).take i)).map mE) :: outH e 5 (W ++ e.add.take i))) (fun i => i ≤ e.add.length ∧ addsOk s { e with add := e.add.take i }) (fun i => e.add.length - i) 0 ⟨Nat.zero_le _, by simp [addsOk]⟩ (by rfl) (by decide) (by simp) (by simp [raH, outH, encZ, encE, addAll, mE_comp]) ?_
  rintro i ⟨hi, hok⟩ ih
  by_cases hlt : i < e.add.length
  · obtain ⟨t, ht, hti, -, -⟩ := getL hlt
    have hlt' : (i : Int) < e.add.length := by omega
    have hw := wrap_small (n := (i : Int) + 1) (by omega) (by omega)
    have htm : (e.add.map (·.id))[i]? = some t.id := by rw [List.getElem?_map, ht]; rfl
    have hnx := addAll_snoc (K := K0) htm
    have hsn := addsOk_snoc (s := s) ht
    have hmem : t.id ∈ addAll K0 ((e.add.map (·.id)).take i) ↔ hasId s.tabs t.id = true ∨ t.id ∈ (e.add.take i).map (·.id) := by rw [addAll_mem, hK0, List.map_take]
    have hbad : ¬ (hasId s.tabs t.id = false ∧ findI e.add t.id = i ∧ t.id < e.next) → ¬ okA s e := fun hn h => hn (hsn.1 (addsOk_take h.2.2.2.1 (i + 1))).2
    have hfs := find_self ht
    have hln : (W ++ e.add.take i).length ≤ 1000000 := by rw [List.length_append, List.length_take]; omega
    have hlx : W ++ e.add.take (i + 1) = (W ++ e.add.take i) ++ [t] := by rw [take_snoc ht]; simp
    have ihq := ih (i + 1)
    simp only [hnx, hlx] at ihq
    clear ih
    generalize addAll K0 ((e.add.map (·.id)).take i) = KK at *
    generalize W ++ e.add.take i = L at *
    have hbb : (L.length + 1) * 48 ≤ 70368744177664 := by omega
    unfold raH outH
    by_cases c1 : t.id ∈ KK
    · obtain ⟨j, hf, hfi, hfv⟩ := mget_in c1
      (repeat (first | refine Run.adm rfl ?_ | refine Run.seq ?_ | (apply Run.opS rfl; (· (simp -implicitDefEqProofs [hlt, hlt', ht, hti, encT, hf, hfi, hfv, mE]; exact ⟨rfl, rfl⟩))) | (apply Run.condS; (· (simp -implicitDefEqProofs [hlt, hlt', ht, hti, encT, hf, hfi, hfv, mE]; exact rfl)))))
      refine pa_bad hm (hbad fun h => ?_) trivial (by simp) (by simp) (by simp)
      rcases hmem.1 c1 with hx | hx
      · rw [h.1] at hx; cases hx
      · exact hfs.1 h.2.1 hx
    have hf := mget_out c1
    have c1a : hasId s.tabs t.id = false := by
      cases hx : hasId s.tabs t.id with
      | false => rfl
      | true => exact absurd (hmem.2 (.inl hx)) c1
    have c1b : findI e.add t.id = i := hfs.2 fun hx => c1 (hmem.2 (.inr hx))
    have hak : addK KK t.id = KK ++ [t.id] := if_neg c1
    by_cases c3 : t.id < e.next
    rotate_left
    · have c3' : e.next ≤ t.id := by omega
      (repeat (first | refine Run.adm rfl ?_ | refine Run.seq ?_ | (apply Run.opS rfl; (· (simp -implicitDefEqProofs [hlt, hlt', ht, hti, encT, encE, hf, c3']; exact ⟨rfl, rfl⟩))) | (apply Run.condS; (· (simp -implicitDefEqProofs [hlt, hlt', ht, hti, encT, encE, hf, c3']; exact rfl)))))
      exact pa_bad hm (hbad (fun h => c3 h.2.2)) trivial (by simp) (by simp) (by simp [encZ, encE])
    have c3' : ¬ e.next ≤ t.id := by omega
    rw [hak] at ihq
    (repeat (first | refine Run.adm rfl ?_ | refine Run.seq ?_ | (apply Run.opS rfl; (· (simp -implicitDefEqProofs [hlt, hlt', ht, hti, encT, encE, hf, c3', kEq, hbb]; exact ⟨rfl, rfl⟩))) | (apply Run.condS; (· (simp -implicitDefEqProofs [hlt, hlt', ht, hti, encT, encE, hf, c3', kEq, hbb]; exact rfl)))))
    refine Run.mv [0, 1, 2, 3, 4, 8] _ _ (by rfl) (by decide) ?_ ?_ (ihq ⟨by omega, hsn.2 ⟨hok, c1a, c1b, c3⟩⟩ (by omega))
    · simp [hw]
    · simp [raH, outH, encZ, encE, encT, mE_comp, mE]
  · have : i = e.add.length := by omega
    subst this
    rw [List.take_length] at hok ⊢
    unfold raH outH
    (repeat (first | refine Run.adm rfl ?_ | refine Run.seq ?_ | (apply Run.opS rfl; (· (simp -implicitDefEqProofs; exact ⟨rfl, rfl⟩))) | (apply Run.condS; (· (simp -implicitDefEqProofs; exact rfl)))))
    refine Run.mv [0, 1, 2, 4, 5] _ _ (by rfl) (by decide) ?_ ?_ (hd hok)
    · simp
    · simp [raH, outH, encZ, encE]

theorem pa_b {s : St} {e : Ed} (hm : mayE e = true) (hg : GoodT s.tabs) (h3 : dropsOk s e) (hl : s.tabs.length ≤ 500000) {K0 G : List Int} (hK0 : ∀ q, q ∈ K0 ↔ hasId s.tabs q = true) (hG : ∀ q, q ∈ G ↔ q ∈ e.drop) :
    RunP s e ⟨[.code k18b], tl [(2, .ptr 0 0), (3, .ptr 1 0), (4, .ptr 2 0), (7, .mp 3), (10, .mp 4)], raH s e ++ [.map (K0.map mE), .map (G.map mE)]⟩ := by
  have hd := pa_c hm hg h3 hl hK0
  unfold k18b
  obtain ⟨K, hK⟩ : ∃ K, K = k18c := ⟨_, rfl⟩
  rw [← hK] at hd ⊢
  obtain ⟨p, hp⟩ : ∃ p, p = fun t : Tb => !decide (t.id ∈ e.drop) := ⟨_, rfl⟩
  have hkp : kept s e = s.tabs.filter p := by rw [hp]; rfl
  rw [hkp] at hd
  unfold raH
  (repeat (first | refine Run.adm rfl ?_ | refine Run.seq ?_ | (apply Run.opS rfl; (· (simp -implicitDefEqProofs [encZ, encE]; exact ⟨rfl, rfl⟩))) | (apply Run.condS; (· (simp -implicitDefEqProofs [encZ, encE]; exact rfl)))))
  refine Run.nilC 5 0 4 46 (by simp; rfl) (by simp) ?_
  refine Run.loopC [0, 1, 2, 3, 4, 5, 6] (fun (i : Nat) => ([(2, .ptr 0 0), (3, .ptr 1 0), (4, .ptr 2 0), (7, .mp 3), (10, .mp 4), (13, .ptr 5 0), (66, .vs (s.tabs.map encT) 4), (67, .int .i64 s.tabs.length), (68, .int .i64 i)], raH s e ++ [.map (K0.map mE), .map (G.map mE)] ++ outH e 6 ((s.tabs.take i).filter p))) (fun i => i ≤ s.tabs.length) (fun i => s.tabs.length - i) 0 (by simp) (by rfl) (by decide) (by simp) (by simp [raH, outH, encZ, encE, mE_comp]) ?_
  intro i hi ihO
  have hol : ((s.tabs.take i).filter p).length ≤ i := Nat.le_trans (List.length_filter_le _ _) (by simp; omega)
  by_cases hlt : i < s.tabs.length
  · obtain ⟨t, ht, hti, -, -⟩ := getL hlt
    have hlt' : (i : Int) < s.tabs.length := by omega
    have hw := wrap_small (n := (i : Int) + 1) (by omega) (by omega)
    have hnx : (s.tabs.take (i + 1)).filter p = (s.tabs.take i).filter p ++ (if p t = true then [t] else []) := by
      rw [take_snoc ht, List.filter_append]
      congr 1
      cases h : p t <;> simp [h]
    have hpt : p t = !decide (t.id ∈ e.drop) := by rw [hp]
    have ihq := ihO (i + 1) (by omega) (by omega)
    simp only [hnx] at ihq
    clear ihO
    generalize (s.tabs.take i).filter p = o at *
    have hbb : (o.length + 1) * 48 ≤ 70368744177664 := by omega
    unfold raH outH
    by_cases c1 : t.id ∈ G
    · obtain ⟨j, hf, hfi, hfv⟩ := mget_in c1
      rw [hpt, decide_eq_true ((hG _).1 c1)] at ihq
      simp only [Bool.not_true, Bool.false_eq_true, if_false, List.append_nil] at ihq
      (repeat (first | refine Run.adm rfl ?_ | refine Run.seq ?_ | (apply Run.opS rfl; (· (simp -implicitDefEqProofs [hlt, hlt', ht, hti, encT, hf, hfi, hfv, mE]; exact ⟨rfl, rfl⟩))) | (apply Run.condS; (· (simp -implicitDefEqProofs [hlt, hlt', ht, hti, encT, hf, hfi, hfv, mE]; exact rfl)))))
      refine Run.mv [0, 1, 2, 3, 4, 5, 6] _ _ (by rfl) (by decide) ?_ ?_ ihq
      · simp [hw]
      · simp [raH, outH, encZ, encE, mE_comp, mE]
    · have hf := mget_out c1
      rw [hpt, decide_eq_false (fun h => c1 ((hG _).2 h))] at ihq
      simp only [Bool.not_false, if_true] at ihq
      (repeat (first | refine Run.adm rfl ?_ | refine Run.seq ?_ | (apply Run.opS rfl; (· (simp -implicitDefEqProofs [hlt, hlt', ht, hti, encT, hf, hbb]; exact ⟨rfl, rfl⟩))) | (apply Run.condS; (· (simp -implicitDefEqProofs [hlt, hlt', ht, hti, encT, hf, hbb]; exact rfl)))))
      refine Run.mv [0, 1, 2, 3, 4, 5, 9] _ _ (by rfl) (by decide) ?_ ?_ ihq
      · simp [hw]
      · simp [raH, outH, encZ, encE, encT, mE_comp, mE]
  · have : i = s.tabs.length := by omega
    subst this
    clear ihO
    rw [List.take_length]
    unfold raH outH
    (repeat (first | refine Run.adm rfl ?_ | refine Run.seq ?_ | (apply Run.opS rfl; (· (simp -implicitDefEqProofs; exact ⟨rfl, rfl⟩))) | (apply Run.condS; (· (simp -implicitDefEqProofs; exact rfl)))))
    refine Run.mv [0, 1, 2, 3, 5, 6] _ _ (by rfl) (by decide) ?_ ?_ hd
    · simp
    · simp [raH, outH, encZ, encE, mE_comp]

theorem pa_a {s : St} {e : Ed} (hm : mayE e = true) (hg : GoodT s.tabs) (hl : s.tabs.length ≤ 500000) {K0 : List Int} (hK0 : ∀ q, q ∈ K0 ↔ hasId s.tabs q = true) :
    RunP s e ⟨[.code k18a], tl [(2, .ptr 0 0), (3, .ptr 1 0), (4, .ptr 2 0), (7, .mp 3)], raH s e ++ [.map (K0.map mE)]⟩ := by
  have hdl : e.drop.length ≤ 128 := (mayE_spec hm).2.1
  have hd := fun h3 => pa_b hm hg h3 hl hK0 (G := addAll [] e.drop) (fun q => by rw [addAll_mem]; simp)
  unfold k18a
  obtain ⟨K, hK⟩ : ∃ K, K = k18b := ⟨_, rfl⟩
  rw [← hK] at hd ⊢
  unfold raH
  (repeat (first | refine Run.adm rfl ?_ | refine Run.seq ?_ | (apply Run.opS rfl; (· (simp -implicitDefEqProofs [encZ, encE]; exact ⟨rfl, rfl⟩))) | (apply Run.condS; (· (simp -implicitDefEqProofs [encZ, encE]; exact rfl)))))
  refine Run.loopC [0, 1, 2, 3, 4] (fun (i : Nat) => ([(2, .ptr 0 0), (3, .ptr 1 0), (4, .ptr 2 0), (7, .mp 3), (10, .mp 4), (41, .vs (e.drop.map encN) 1), (42, .int .i64 e.drop.length), (43, .int .i64 i)], raH s e ++ [.map (K0.map mE), .map ((addAll [] (e.drop.take i)).map mE)])) (fun i => i ≤ e.drop.length ∧ dropsOk s { e with drop := e.drop.take i }) (fun i => e.drop.length - i) 0 ⟨Nat.zero_le _, by simp [dropsOk]⟩ (by rfl) (by decide) (by simp) (by simp [raH, encZ, encE, mE_comp, addAll]) ?_
  rintro i ⟨hi, hok⟩ ih
  by_cases hlt : i < e.drop.length
  · obtain ⟨d, hdk, hdi, -, -⟩ := getL hlt
    have hlt' : (i : Int) < e.drop.length := by omega
    have hw := wrap_small (n := (i : Int) + 1) (by omega) (by omega)
    have hsn := dropsOk_snoc (s := s) hdk
    have hbad : ¬ (hasId s.tabs d = true ∧ d ∉ e.drop.take i) → ¬ okA s e := fun hn h => hn (hsn.1 (dropsOk_take h.2.2.1 (i + 1))).2
    have hnx := addAll_snoc (K := []) hdk
    have hmem : d ∈ addAll [] (e.drop.take i) ↔ d ∈ e.drop.take i := by rw [addAll_mem]; simp
    have ihq := ih (i + 1)
    simp only [hnx] at ihq
    clear ih
    generalize addAll [] (e.drop.take i) = G at *
    unfold raH
    by_cases c1 : d ∈ K0
    rotate_left
    · have hf := mget_out c1
      (repeat (first | refine Run.adm rfl ?_ | refine Run.seq ?_ | (apply Run.opS rfl; (· (simp -implicitDefEqProofs [hlt, hlt', hdk, hdi, encN, hf]; exact ⟨rfl, rfl⟩))) | (apply Run.condS; (· (simp -implicitDefEqProofs [hlt, hlt', hdk, hdi, encN, hf]; exact rfl)))))
      exact pa_bad hm (hbad fun h => c1 ((hK0 d).2 h.1)) trivial (by simp) (by simp) (by simp)
    obtain ⟨j, hf, hfi, hfv⟩ := mget_in c1
    by_cases c2 : d ∈ G
    · obtain ⟨j2, hf2, hfi2, hfv2⟩ := mget_in c2
      (repeat (first | refine Run.adm rfl ?_ | refine Run.seq ?_ | (apply Run.opS rfl; (· (simp -implicitDefEqProofs [hlt, hlt', hdk, hdi, encN, hf, hfi, hfv, hf2, hfi2, hfv2, mE]; exact ⟨rfl, rfl⟩))) | (apply Run.condS; (· (simp -implicitDefEqProofs [hlt, hlt', hdk, hdi, encN, hf, hfi, hfv, hf2, hfi2, hfv2, mE]; exact rfl)))))
      exact pa_bad hm (hbad fun h => h.2 (hmem.1 c2)) trivial (by simp) (by simp) (by simp)
    have hf2 := mget_out c2
    have hak : addK G d = G ++ [d] := if_neg c2
    rw [hak] at ihq
    (repeat (first | refine Run.adm rfl ?_ | refine Run.seq ?_ | (apply Run.opS rfl; (· (simp -implicitDefEqProofs [hlt, hlt', hdk, hdi, encN, hf, hfi, hfv, hf2, mE, kEq]; exact ⟨rfl, rfl⟩))) | (apply Run.condS; (· (simp -implicitDefEqProofs [hlt, hlt', hdk, hdi, encN, hf, hfi, hfv, hf2, mE, kEq]; exact rfl)))))
    refine Run.mv [0, 1, 2, 3, 4] _ _ (by rfl) (by decide) ?_ ?_ (ihq ⟨by omega, hsn.2 ⟨hok, (hK0 d).1 c1, fun h => c2 (hmem.2 h)⟩⟩ (by omega))
    · simp [hw]
    · simp [raH, encZ, encE, mE_comp, mE]
  · have : i = e.drop.length := by omega
    subst this
    rw [List.take_length] at hok ⊢
    unfold raH
    (repeat (first | refine Run.adm rfl ?_ | refine Run.seq ?_ | (apply Run.opS rfl; (· (simp -implicitDefEqProofs; exact ⟨rfl, rfl⟩))) | (apply Run.condS; (· (simp -implicitDefEqProofs; exact rfl)))))
    refine Run.mv [0, 1, 2, 3, 4] _ _ (by rfl) (by decide) ?_ ?_ (hd hok)
    · simp
    · simp [raH, encZ, encE, mE_comp]

theorem apply_tri (s : St) (e : Ed) (hg : GoodT s.tabs) (hl : s.tabs.length ≤ 500000) : Tri Try.prog 18 [.agg (encZ s), .agg (encE e)] [] (fun v H => v = .tup [.agg (encZ (applyR s e).1), .int .i64 (applyR s e).2] ∧ H = []) := by
  refine Tri.of_run' Try.func18 rfl c18_ok (by simp [Try.ntmps18]) ?_
  have hck := fun H => check_at e H
  simp only [encE] at hck
  (repeat (first | refine Run.adm rfl ?_ | refine Run.seq ?_ | (apply Run.opS rfl; (· (simp -implicitDefEqProofs [encZ, encE]; exact ⟨rfl, rfl⟩))) | (apply Run.condS; (· (simp -implicitDefEqProofs [encZ, encE]; exact rfl)))))
  refine Run.opC rfl rfl rfl (hck _) ?_
  rintro v h' ⟨rfl, rfl⟩
  cases hm : mayE e with
  | false =>
    (repeat (first | refine Run.adm rfl ?_ | refine Run.seq ?_ | (apply Run.opS rfl; (· (simp -implicitDefEqProofs [hm, errA]; exact ⟨rfl, rfl⟩))) | (apply Run.condS; (· (simp -implicitDefEqProofs [hm, errA]; exact rfl)))))
    refine Run.mv [2] [(4, .ptr 0 0), (5, .int .i64 1)] [.row (encZ z0)] (by rfl) (by decide) (by simp) (by simp [encZ, z0, VLe.nils]) ?_
    refine Run.ret0 rfl Try.func18 r18_ok trivial (by simp [r18]; rfl) ?_ (by simp [encZ, z0])
    have : applyR s e = (z0, 1) := by rw [applyR, if_neg (by simp [hm])]
    simp [this]
  | true =>
    have hd := pa_a hm hg hl (K0 := addAll [] (s.tabs.map (·.id))) (fun q => by rw [addAll_mem, hasId_mem]; simp)
    (repeat (first | refine Run.adm rfl ?_ | refine Run.seq ?_ | (apply Run.opS rfl; (· (simp -implicitDefEqProofs [hm, errA]; exact ⟨rfl, rfl⟩))) | (apply Run.condS; (· (simp -implicitDefEqProofs [hm, errA]; exact rfl)))))
    show Run _ ⟨[.code (.loop c18l0), .endB 0, .code k18a], _, _⟩
    obtain ⟨K, hK⟩ : ∃ K, K = k18a := ⟨_, rfl⟩
    rw [← hK] at hd ⊢
    refine Run.loopC [0, 1, 2, 3] (fun (i : Nat) => ([(2, .ptr 0 0), (3, .ptr 1 0), (4, .ptr 2 0), (7, .mp 3), (29, .vs (s.tabs.map encT) 4), (30, .int .i64 s.tabs.length), (31, .int .i64 i)], raH s e ++ [.map ((addAll [] ((s.tabs.map (·.id)).take i)).map mE)])) (fun i => i ≤ s.tabs.length) (fun i => s.tabs.length - i) 0 (Nat.zero_le _) (by rfl) (by decide) (by simp) (by simp [raH, encZ, encE, mE_comp, addAll]) ?_
    intro i hi ih
    by_cases hlt : i < s.tabs.length
    · obtain ⟨t, ht, hti, -, -⟩ := getL hlt
      have hlt' : (i : Int) < s.tabs.length := by omega
      have hw := wrap_small (n := (i : Int) + 1) (by omega) (by omega)
      have htm : (s.tabs.map (·.id))[i]? = some t.id := by rw [List.getElem?_map, ht]; rfl
      have hnx := addAll_snoc (K := []) htm
      have ihq := ih (i + 1) (by omega) (by omega)
      simp only [hnx] at ihq
      clear ih
      generalize addAll [] ((s.tabs.map (·.id)).take i) = G at *
      unfold raH
      by_cases c1 : t.id ∈ G
      · obtain ⟨j, hf, hfi, hfv⟩ := mget_in c1
        have hs := mE_set hfi
        rw [show addK G t.id = G from if_pos c1] at ihq
        (repeat (first | refine Run.adm rfl ?_ | refine Run.seq ?_ | (apply Run.opS rfl; (· (simp -implicitDefEqProofs [hlt, hlt', ht, hti, encT, hf, hs]; exact ⟨rfl, rfl⟩))) | (apply Run.condS; (· (simp -implicitDefEqProofs [hlt, hlt', ht, hti, encT, hf, hs]; exact rfl)))))
        refine Run.mv [0, 1, 2, 3] _ _ (by rfl) (by decide) ?_ ?_ ihq
        · simp [hw]
        · simp [raH, encZ, encE, mE_comp]
      · have hf := mget_out c1
        rw [show addK G t.id = G ++ [t.id] from if_neg c1] at ihq
        (repeat (first | refine Run.adm rfl ?_ | refine Run.seq ?_ | (apply Run.opS rfl; (· (simp -implicitDefEqProofs [hlt, hlt', ht, hti, encT, hf, kEq]; exact ⟨rfl, rfl⟩))) | (apply Run.condS; (· (simp -implicitDefEqProofs [hlt, hlt', ht, hti, encT, hf, kEq]; exact rfl)))))
        refine Run.mv [0, 1, 2, 3] _ _ (by rfl) (by decide) ?_ ?_ ihq
        · simp [hw]
        · simp [raH, encZ, encE, mE_comp, mE]
    · have : i = s.tabs.length := by omega
      subst this
      have hla : (s.tabs.map (·.id)).take s.tabs.length = s.tabs.map (·.id) := List.take_of_length_le (by simp)
      rw [hla]
      unfold raH
      (repeat (first | refine Run.adm rfl ?_ | refine Run.seq ?_ | (apply Run.opS rfl; (· (simp -implicitDefEqProofs; exact ⟨rfl, rfl⟩))) | (apply Run.condS; (· (simp -implicitDefEqProofs; exact rfl)))))
      refine Run.mv [0, 1, 2, 3] _ _ (by rfl) (by decide) ?_ ?_ hd
      · simp
      · simp [raH, encZ, encE, mE_comp]
theorem apply_at (s : St) (e : Ed) (hg : GoodT s.tabs) (hl : s.tabs.length ≤ 500000) (H : List O) : Tri Try.prog 18 [.agg (encZ s), .agg (encE e)] H (fun v H' => v = .tup [.agg (encZ (applyR s e).1), .int .i64 (applyR s e).2] ∧ H' = H) := (apply_tri s e hg hl).any (fun v ρ h => by rw [h]; rfl) (fun ρ => by simp [V.renL, V.ren]) H

end Go.Proofs.Ytpipgcmiaccdkaa
