/-
  Layer 12, part D: an edit as text: the program.
-/
import Derived.Test.YtpipgcmiaccdkaaManC
namespace Go.Proofs.Ytpipgcmiaccdkaa
open Sx Go
set_option maxRecDepth 100000
set_option linter.unusedSimpArgs false
set_option linter.unusedVariables false
set_option linter.unnecessarySimpa false
attribute [local simp] stepV condR boundsC appendG appendO copyV srcC guardB isCall opStep Opd.ev put readAt aBin aUn args0 V.celled V.ones V.one V.cells putAt bounds bound1 elemsOf srcOf appendV fillAt fillEl V.pures V.pure unwind evs ARes.ev mkRes V.ren V.renL O.ren eqCells eq1 aEq aMM hasTy hasTyN okTy mmGo Known HLe OLe VsLe.refl VLe.refl VLe.cap Stay VsLe V.frz V.frzL O.frz fr clearV rn KnownR Objs OLeO ObjsE nm back setAll ren_ite take_map_len List.take_of_length_le
attribute [local simp ↓] upd_app tl_cons tl_nil
attribute [local simp] encT_ren encT_ones encT_len encT_take encN_ren encN_ones encN_len encN_take
attribute [local simp] encE_ren encE_len encE_take encZ_ren encZ_len encZ_take
attribute [local simp] byteEls_snoc byteEls_len bytesOf_byteEls

def encS (s : Bs) : List V := [.str s]
theorem encS_ren (ρ) (s : Bs) : V.renL ρ (encS s) = encS s := rfl
theorem encS_ones (s) : V.ones (encS s) = true := rfl
theorem encS_len (s) : (encS s).length = 1 := rfl
theorem encS_take (s) : (encS s).take 1 = encS s := rfl
attribute [local simp] encS_ren encS_ones encS_len encS_take
theorem cases2 {E : Env} {k t} {g : List O → List O} {Hs P Q : List O} (hc : Hs = P ∨ Hs = Q) (slots : List (Nat × V)) (h' : List O) (idsA idsB : List Nat)
    (hkA : idsA.take E.H0.length = List.range E.H0.length) (hndA : idsA.Nodup) (hsA : KnownR (rn idsA) t slots) (hoA : Objs (rn idsA) (g P) idsA h')
    (hkB : idsB.take E.H0.length = List.range E.H0.length) (hndB : idsB.Nodup) (hsB : KnownR (rn idsB) t slots) (hoB : Objs (rn idsB) (g Q) idsB h')
    (hr : Run E ⟨k, tl slots, h'⟩) : Run E ⟨k, t, g Hs⟩ := by
  rcases hc with rfl | rfl
  · exact Run.mv idsA slots h' hkA hndA hsA hoA hr
  · exact Run.mv idsB slots h' hkB hndB hsB hoB hr

def nb (n : Int) : Bs := (vputM n).1
def nbs (l : List Int) : Bs := l.flatMap nb
def tabBs (t : Tb) : Bs := nb t.id ++ nb t.level ++ (textM t.lo).1 ++ (textM t.hi).1
def bytesE (e : Ed) : Bs := nb e.add.length ++ e.add.flatMap tabBs ++ nb e.drop.length ++ nbs e.drop ++ nb e.log ++ nb e.next
def putM (e : Ed) : Bs × Int := if mayE e = true then (bytesE e, 0) else ([], 1)
theorem nb_len (n : Int) : (nb n).length ≤ 9 := vputM_len n
theorem nbs_len : ∀ (l : List Int), (nbs l).length ≤ l.length * 9
  | [] => by simp [nbs]
  | n :: l => by have := nb_len n; have := nbs_len l; simp only [nbs, List.flatMap_cons, List.length_append, List.length_cons] at *; omega
theorem nbs_nil : nbs [] = [] := rfl
theorem nbs_snoc {l : List Int} {i : Nat} {n : Int} (h : l[i]? = some n) : nbs (l.take (i + 1)) = nbs (l.take i) ++ nb n := by
  rw [List.take_add_one, h]; simp [nbs]

/-- a builder behind a writing -/
def bldW (l : Bs) : List O := [.row (bldA 0 true 4 l.length), .gone, .ty 0 57 (some 2), .gone, .arr (byteEls l) 1, .ty 4 5 none]

theorem put1_tri (u : Bool) (l : Bs) (ns : List Int) (hs : l.length + ns.length * 9 ≤ 70368744177664) :
    Tri Try.prog 26 [.vs (ns.map encN) 1, .ptr 0 0] (bldH u l) (fun v H => v = .tup [] ∧ ((ns = [] ∧ H = bldH u l) ∨ H = bldW (l ++ nbs ns))) := by
  refine Tri.of_run' Try.func26 rfl c26_ok (by simp [Try.ntmps26]) ?_
  (repeat (first | refine Run.adm rfl ?_ | refine Run.seq ?_ | (apply Run.opS rfl; (· (simp -implicitDefEqProofs; exact ⟨rfl, rfl⟩))) | (apply Run.condS; (· (simp -implicitDefEqProofs; exact rfl)))))
  refine Run.loopC [0, 1, 2, 3] (fun (i : Nat) => ([(0, .vs (ns.map encN) 1), (1, .ptr 0 0), (7, .vs (ns.map encN) 1), (8, .int .i64 ns.length), (9, .int .i64 i)], if i = 0 then bldH u l else bldW (l ++ nbs (ns.take i)))) (fun i => i ≤ ns.length) (fun i => ns.length - i) 0 (by simp) (by rfl) (by decide) (by simp) (by simp [bldH, bldA]) ?_
  intro i hi ih
  by_cases hlt : i < ns.length
  · obtain ⟨n, hn, hni, -, -⟩ := getL hlt
    have hw := wrap_small (n := (i : Int) + 1) (by omega) (by omega)
    have hsn := nbs_snoc hn
    have hl1 := nbs_len (ns.take i)
    have hl2 : (ns.take i).length = i := by rw [List.length_take]; omega
    have hl3 := nb_len n
    by_cases hz : i = 0
    · subst hz
      rw [if_pos rfl]
      have hw0 := wrap_small (n := 1) (by omega) (by omega)
      (repeat (first | refine Run.adm rfl ?_ | refine Run.seq ?_ | (apply Run.opS rfl; (· (simp -implicitDefEqProofs [hlt, hn, hni, encN]; exact ⟨rfl, rfl⟩))) | (apply Run.condS; (· (simp -implicitDefEqProofs [hlt, hn, hni, encN]; exact rfl)))))
      refine Run.opC rfl rfl rfl (vput_at n _) ?_
      rintro v h' ⟨rfl, rfl⟩
      (repeat (first | refine Run.adm rfl ?_ | refine Run.seq ?_ | (apply Run.opS rfl; (· (simp -implicitDefEqProofs; exact ⟨rfl, rfl⟩))) | (apply Run.condS; (· (simp -implicitDefEqProofs; exact rfl)))))
      refine Run.opF [0, 1, 2, 3] (writeString_tri u l (nb n) (by omega)) rfl (by simp -implicitDefEqProofs [bldH, bldA, nb]) rfl (by simp -implicitDefEqProofs [bldH, bldA, nb]) (by decide) (by rfl) (by simp -implicitDefEqProofs [bldH, bldA, nb]) ?_
      rintro v0 Hs' ⟨rfl, rfl⟩
      (repeat (first | refine Run.adm rfl ?_ | refine Run.seq ?_ | (apply Run.opS rfl; (· (simp -implicitDefEqProofs; exact ⟨rfl, rfl⟩))) | (apply Run.condS; (· (simp -implicitDefEqProofs; exact rfl)))))
      refine Run.mv [0, 1, 2, 3, 4, 5] _ _ (by rfl) (by decide) (by simp -implicitDefEqProofs [hw0, bldA, bldW, bldH, hsn, nbs_nil]) (by simp -implicitDefEqProofs [hw0, bldA, bldW, bldH, hsn, nbs_nil]) (ih (1) ?_ ?_)
      · omega
      · omega
    · rw [if_neg hz]
      (repeat (first | refine Run.adm rfl ?_ | refine Run.seq ?_ | (apply Run.opS rfl; (· (simp -implicitDefEqProofs [hlt, hn, hni, encN]; exact ⟨rfl, rfl⟩))) | (apply Run.condS; (· (simp -implicitDefEqProofs [hlt, hn, hni, encN]; exact rfl)))))
      refine Run.opC rfl rfl rfl (vput_at n _) ?_
      rintro v h' ⟨rfl, rfl⟩
      (repeat (first | refine Run.adm rfl ?_ | refine Run.seq ?_ | (apply Run.opS rfl; (· (simp -implicitDefEqProofs [bldW]; exact ⟨rfl, rfl⟩))) | (apply Run.condS; (· (simp -implicitDefEqProofs [bldW]; exact rfl)))))
      refine Run.opF [0, 4, 2, 5] (writeString_tri true (l ++ nbs (ns.take i)) (nb n) (by simp only [List.length_append]; omega)) rfl (by simp -implicitDefEqProofs [bldH, bldA, bldW, nb]) rfl (by simp -implicitDefEqProofs [bldH, bldA, bldW, nb]) (by decide) (by rfl) (by simp -implicitDefEqProofs [bldH, bldA, bldW, nb]) ?_
      rintro v0 Hs' ⟨rfl, rfl⟩
      (repeat (first | refine Run.adm rfl ?_ | refine Run.seq ?_ | (apply Run.opS rfl; (· (simp -implicitDefEqProofs; exact ⟨rfl, rfl⟩))) | (apply Run.condS; (· (simp -implicitDefEqProofs; exact rfl)))))
      refine Run.mv [0, 1, 2, 3, 6, 7] _ _ (by rfl) (by decide) (by simp -implicitDefEqProofs [hw, bldA, bldW, hsn]) (by simp -implicitDefEqProofs [hw, bldA, bldW, hsn]) (ih (i + 1) ?_ ?_)
      · omega
      · omega
  · have : i = ns.length := by omega
    subst this
    by_cases hz : ns.length = 0
    · have hnil : ns = [] := List.length_eq_zero_iff.1 hz
      subst hnil
      simp only [List.length_nil, if_true]
      (repeat (first | refine Run.adm rfl ?_ | refine Run.seq ?_ | (apply Run.opS rfl; (· (simp -implicitDefEqProofs; exact ⟨rfl, rfl⟩))) | (apply Run.condS; (· (simp -implicitDefEqProofs; exact rfl)))))
      refine Run.retI Try.func26 r26_ok trivial (by simp -implicitDefEqProofs [r26, bldH, bldA]; rfl) (by simp [bldH, bldA]) ?_ (by simp -implicitDefEqProofs [bldH, bldA]) (by simp -implicitDefEqProofs [bldH, bldA])
      simp [bldH, bldA]
    · rw [if_neg hz, List.take_length]
      (repeat (first | refine Run.adm rfl ?_ | refine Run.seq ?_ | (apply Run.opS rfl; (· (simp -implicitDefEqProofs [bldW]; exact ⟨rfl, rfl⟩))) | (apply Run.condS; (· (simp -implicitDefEqProofs [bldW]; exact rfl)))))
      refine Run.retI Try.func26 r26_ok trivial (by simp -implicitDefEqProofs [r26, bldW, bldA, bldH]; rfl) (by simp [bldW, bldA, bldH]) ?_ (by simp -implicitDefEqProofs [bldW, bldA, bldH]) (by simp -implicitDefEqProofs [bldW, bldA, bldH])
      simp [bldW, bldA]

theorem mayE_spec {e : Ed} (h : mayE e = true) : e.add.length ≤ 128 ∧ e.drop.length ≤ 128 ∧ (∀ t ∈ e.add, tabB t = true) ∧ (∀ n ∈ e.drop, numB n = true) ∧ (0 ≤ e.log ∧ e.log ≤ 1073741824) ∧ (0 ≤ e.next ∧ e.next ≤ 1073741824) := by
  simp only [mayE, Bool.and_eq_true, Bool.not_eq_true', decide_eq_false_iff_not, List.all_eq_true] at h
  obtain ⟨⟨⟨⟨⟨⟨⟨h1, h2⟩, h3⟩, h4⟩, h5⟩, h6⟩, h7⟩, h8⟩ := h
  exact ⟨by omega, by omega, h3, h4, by omega, by omega⟩
theorem tabB_spec {t : Tb} (h : tabB t = true) : (1 ≤ t.id ∧ t.id ≤ 1073741824) ∧ (0 ≤ t.level ∧ t.level ≤ 2) ∧ (t.lo ≠ [] ∧ t.lo.length ≤ 64) ∧ (t.hi ≠ [] ∧ t.hi.length ≤ 64) ∧ Op.bytesLess t.hi t.lo = false := by
  simp only [tabB, numB, keyB, Bool.and_eq_true, Bool.not_eq_true', decide_eq_false_iff_not, decide_eq_true_eq] at h
  obtain ⟨⟨⟨⟨⟨⟨h1, h2⟩, h3⟩, h4⟩, h5⟩, h6⟩, h7⟩ := h
  exact ⟨by omega, by omega, h5, h6, h7⟩
theorem tabBs_len {t : Tb} (h : tabB t = true) : (tabBs t).length ≤ 164 := by
  obtain ⟨-, -, ⟨-, h1⟩, ⟨-, h2⟩, -⟩ := tabB_spec h
  have a1 := nb_len t.id; have a2 := nb_len t.level
  have a3 := vputM_len t.lo.length; have a4 := vputM_len t.hi.length
  simp only [tabBs, textM, if_neg (show ¬ 262144 < t.lo.length by omega), if_neg (show ¬ 262144 < t.hi.length by omega), List.length_append]
  omega
theorem tabsBs_len : ∀ {l : List Tb}, (∀ t ∈ l, tabB t = true) → (l.flatMap tabBs).length ≤ l.length * 164
  | [], _ => by simp
  | t :: l, h => by
    have h1 := tabBs_len (h t (by simp)); have h2 := tabsBs_len (l := l) fun x hx => h x (by simp [hx])
    simp only [List.flatMap_cons, List.length_append, List.length_cons]; omega
theorem tabs_snoc {l : List Tb} {i : Nat} {t : Tb} (h : l[i]? = some t) : (l.take (i + 1)).flatMap tabBs = (l.take i).flatMap tabBs ++ tabBs t := by
  rw [List.take_add_one, h]; simp

theorem textM_len {s : Bs} (h : s.length ≤ 262144) : (textM s).1.length ≤ 9 + s.length := by
  have := vputM_len s.length
  rw [textM, if_neg (by omega)]; simp only [List.length_append]; omega
def twoBs (t : Tb) (k : Nat) : Bs := ([t.lo, t.hi].take k).flatMap fun s => (textM s).1
theorem twoBs_0 (t) : twoBs t 0 = [] := by simp [twoBs]
theorem put_tri (e : Ed) : Tri Try.prog 11 [.agg (encE e)] [] (fun v H => v = .tup [.str (putM e).1, .int .i64 (putM e).2] ∧ H = []) := by
  refine Tri.of_run' Try.func11 rfl c11_ok (by simp [Try.ntmps11]) ?_
  have hck := fun H => check_at e H
  simp only [encE] at hck
  (repeat (first | refine Run.adm rfl ?_ | refine Run.seq ?_ | (apply Run.opS rfl; (· (simp -implicitDefEqProofs [encE]; exact ⟨rfl, rfl⟩))) | (apply Run.condS; (· (simp -implicitDefEqProofs [encE]; exact rfl)))))
  refine Run.opC rfl rfl rfl (hck _) ?_
  rintro v h' ⟨rfl, rfl⟩
  cases hm : mayE e with
  | false =>
    (repeat (first | refine Run.adm rfl ?_ | refine Run.seq ?_ | (apply Run.opS rfl; (· (simp -implicitDefEqProofs [errA]; exact ⟨rfl, rfl⟩))) | (apply Run.condS; (· (simp -implicitDefEqProofs [errA]; exact rfl)))))
    refine Run.mv [] [(2, .str []), (3, .int .i64 1)] [] (by rfl) (by decide) (by simp -implicitDefEqProofs) (by simp -implicitDefEqProofs) ?_
    refine Run.ret0 rfl Try.func11 r11_ok trivial (by simp [r11]; rfl) ?_ (by simp)
    simp [putM, hm]
  | true =>
  obtain ⟨m1, m2, m3, m4, m5, m6⟩ := mayE_spec hm
  (repeat (first | refine Run.adm rfl ?_ | refine Run.seq ?_ | (apply Run.opS rfl; (· (simp -implicitDefEqProofs [errA]; exact ⟨rfl, rfl⟩))) | (apply Run.condS; (· (simp -implicitDefEqProofs [errA]; exact rfl)))))
  refine Run.nilC 1 1 1 5 (by simp; rfl) (by simp) ?_
  refine Run.freeze 3 (es := [(e.add.length : Int)].map encN) (sz := 1) (by simp [encN]) ?_
  refine Run.mv [0, 1, 4, 2, 5] [(1, .ptr 0 0), (5, .ptr 1 0), (6, .fn 26 [.ptr 1 0]), (19, .fn 26 [.ptr 1 0]), (23, .vs ([(e.add.length : Int)].map encN) 1)] [.row (encE e), .row (bldA 1 false 2 0), .arr (byteEls (([] : Bs))) 1, .ty 1 57 (some 2), .ty 2 5 none] (by rfl) (by decide) (by simp -implicitDefEqProofs [encE, encN, bldA, byteEls_nil]) (by simp -implicitDefEqProofs [encE, encN, bldA, byteEls_nil]) ?_
  refine Run.opF [1, 2, 3, 4] (put1_tri false [] [(e.add.length : Int)] (by simp)) rfl (by simp -implicitDefEqProofs [bldH, bldA]) rfl (by simp -implicitDefEqProofs [bldH, bldA]) (by decide) (by rfl) (by simp -implicitDefEqProofs [bldH, bldA]) ?_
  rintro v0 Hs' ⟨rfl, ⟨hh, -⟩ | rfl⟩
  · cases hh
  rw [List.nil_append]
  have hb1 : nbs [(e.add.length : Int)] = nb e.add.length := by simp [nbs]
  rw [hb1]
  refine Run.mv [0, 1, 5, 3, 6] [(1, .ptr 0 0), (5, .ptr 1 0), (6, .fn 26 [.ptr 1 0])] [.row (encE e), .row (bldA 1 true 2 (nb e.add.length).length), .arr (byteEls (nb e.add.length)) 1, .ty 1 57 (some 2), .ty 2 5 none] (by rfl) (by decide) (by simp -implicitDefEqProofs [bldW, bldA]) (by simp -implicitDefEqProofs [bldW, bldA]) ?_
  (repeat (first | refine Run.adm rfl ?_ | refine Run.seq ?_ | (apply Run.opS rfl; (· (simp -implicitDefEqProofs [encE]; exact ⟨rfl, rfl⟩))) | (apply Run.condS; (· (simp -implicitDefEqProofs [encE]; exact rfl)))))
  have hb0 := nb_len e.add.length
  refine Run.loopC [0, 1, 2, 3, 4] (fun (i : Nat) => ([(1, .ptr 0 0), (5, .ptr 1 0), (6, .fn 26 [.ptr 1 0]), (26, .vs (e.add.map encT) 4), (27, .int .i64 e.add.length), (28, .int .i64 i)], [.row (encE e), .row (bldA 1 true 2 (nb e.add.length ++ (e.add.take i).flatMap tabBs).length), .arr (byteEls (nb e.add.length ++ (e.add.take i).flatMap tabBs)) 1, .ty 1 57 (some 2), .ty 2 5 none])) (fun i => i ≤ e.add.length) (fun i => e.add.length - i) 0 (by simp) (by rfl) (by decide) (by simp) (by simp [bldA, encE]) ?_
  intro i hi ih
  have hli := tabsBs_len (l := e.add.take i) fun x hx => m3 x (List.mem_of_mem_take hx)
  have hlt2 : (e.add.take i).length ≤ 128 := by rw [List.length_take]; omega
  obtain ⟨l, hlD⟩ : ∃ l, l = nb e.add.length ++ (e.add.take i).flatMap tabBs := ⟨_, rfl⟩
  have hll : l.length ≤ 22000 := by rw [hlD, List.length_append]; omega
  rw [← hlD]
  by_cases hlt : i < e.add.length
  · obtain ⟨t, ht, hti, -, htm⟩ := getL hlt
    obtain ⟨-, -, ⟨-, b1⟩, ⟨-, b2⟩, -⟩ := tabB_spec (m3 t htm)
    have hlt' : (i : Int) < e.add.length := by omega
    have hw := wrap_small (n := (i : Int) + 1) (by omega) (by omega)
    have hsn := tabs_snoc ht
    (repeat (first | refine Run.adm rfl ?_ | refine Run.seq ?_ | (apply Run.opS rfl; (· (simp -implicitDefEqProofs [hlt, hlt', ht, hti, encT]; exact ⟨rfl, rfl⟩))) | (apply Run.condS; (· (simp -implicitDefEqProofs [hlt, hlt', ht, hti, encT]; exact rfl)))))
    refine Run.freeze 6 (es := [t.id, t.level].map encN) (sz := 1) (by simp [encN]) ?_
    refine Run.mv [0, 1, 2, 3, 4, 5] [(1, .ptr 0 0), (5, .ptr 1 0), (6, .fn 26 [.ptr 1 0]), (8, .ptr 5 0), (26, .vs (e.add.map encT) 4), (27, .int .i64 e.add.length), (28, .int .i64 i), (32, .fn 26 [.ptr 1 0]), (37, .vs ([t.id, t.level].map encN) 1)] [.row (encE e), .row (bldA 1 true 2 (l).length), .arr (byteEls (l)) 1, .ty 1 57 (some 2), .ty 2 5 none, .row (encT t)] (by rfl) (by decide) (by simp -implicitDefEqProofs [encE, encN, bldA, encT]) (by simp -implicitDefEqProofs [encE, encN, bldA, encT]) ?_
    refine Run.opF [1, 2, 3, 4] (put1_tri true l [t.id, t.level] (by simp; omega)) rfl (by simp -implicitDefEqProofs [bldH, bldA]) rfl (by simp -implicitDefEqProofs [bldH, bldA]) (by decide) (by rfl) (by simp -implicitDefEqProofs [bldH, bldA]) ?_
    rintro v0 Hs' ⟨rfl, ⟨hh, -⟩ | rfl⟩
    · cases hh
    obtain ⟨l2, hl2D⟩ : ∃ l2, l2 = l ++ nbs [t.id, t.level] := ⟨_, rfl⟩
    have hl2 : l2.length ≤ 22100 := by rw [hl2D, List.length_append]; have := nbs_len [t.id, t.level]; simp at this; omega
    rw [← hl2D]
    refine Run.mv [0, 1, 6, 3, 7, 5] [(1, .ptr 0 0), (5, .ptr 1 0), (6, .fn 26 [.ptr 1 0]), (8, .ptr 5 0), (26, .vs (e.add.map encT) 4), (27, .int .i64 e.add.length), (28, .int .i64 i)] [.row (encE e), .row (bldA 1 true 2 (l2).length), .arr (byteEls (l2)) 1, .ty 1 57 (some 2), .ty 2 5 none, .row (encT t)] (by rfl) (by decide) (by simp -implicitDefEqProofs [bldW, bldA]) (by simp -implicitDefEqProofs [bldW, bldA]) ?_
    (repeat (first | refine Run.adm rfl ?_ | refine Run.seq ?_ | (apply Run.opS rfl; (· (simp -implicitDefEqProofs [encT]; exact ⟨rfl, rfl⟩))) | (apply Run.condS; (· (simp -implicitDefEqProofs [encT]; exact rfl)))))
    refine Run.freeze 6 (es := [t.lo, t.hi].map encS) (sz := 1) (by simp [encS]) ?_
    refine Run.loopC [0, 1, 2, 3, 4] (fun (k : Nat) => ([(1, .ptr 0 0), (5, .ptr 1 0), (6, .fn 26 [.ptr 1 0]), (26, .vs (e.add.map encT) 4), (27, .int .i64 e.add.length), (28, .int .i64 i), (43, .vs ([t.lo, t.hi].map encS) 1), (44, .int .i64 2), (45, .int .i64 k)], [.row (encE e), .row (bldA 1 true 2 (l2 ++ twoBs t k).length), .arr (byteEls (l2 ++ twoBs t k)) 1, .ty 1 57 (some 2), .ty 2 5 none])) (fun k => k ≤ 2) (fun k => 2 - k) 0 (by simp) (by rfl) (by decide) (by simp [encS]) (by simp [bldA, encE, encS, twoBs_0]) ?_
    intro k hk ih2
    have hkb : (twoBs t k).length ≤ 200 := by
      have q1 := textM_len (s := t.lo) (by omega); have q2 := textM_len (s := t.hi) (by omega)
      have : k = 0 ∨ k = 1 ∨ k = 2 := by omega
      rcases this with rfl | rfl | rfl <;> simp [twoBs] <;> omega
    obtain ⟨l3, hl3D⟩ : ∃ l3, l3 = l2 ++ twoBs t k := ⟨_, rfl⟩
    have hl3 : l3.length ≤ 22300 := by rw [hl3D, List.length_append]; omega
    rw [← hl3D]
    by_cases hk2 : k < 2
    · obtain ⟨s, hs, hsi, -, hsm⟩ := getL (l := [t.lo, t.hi]) (i := k) (by simpa using hk2)
      have hsl : s.length ≤ 64 := by
        simp only [List.mem_cons, List.not_mem_nil, or_false] at hsm
        rcases hsm with rfl | rfl <;> omega
      have hk2' : (k : Int) < 2 := by omega
      have hwk := wrap_small (n := (k : Int) + 1) (by omega) (by omega)
      have hql := textM_len (s := s) (by omega)
      have hl4 : l2 ++ twoBs t (k + 1) = l3 ++ (textM s).1 := by
        rw [hl3D, twoBs, twoBs, List.take_add_one, hs]; simp
      have hq : ([t.lo, t.hi].map encS)[k]? = some (encS s) := by rw [List.getElem?_map, hs]; rfl
      generalize [t.lo, t.hi].map encS = qs at *
      (repeat (first | refine Run.adm rfl ?_ | refine Run.seq ?_ | (apply Run.opS rfl; (· (simp -implicitDefEqProofs [hk2, hk2', hq, encS]; exact ⟨rfl, rfl⟩))) | (apply Run.condS; (· (simp -implicitDefEqProofs [hk2, hk2', hq, encS]; exact rfl)))))
      refine Run.opC rfl rfl rfl (stext_at s (by omega) _) ?_
      rintro v h' ⟨rfl, rfl⟩
      (repeat (first | refine Run.adm rfl ?_ | refine Run.seq ?_ | (apply Run.opS rfl; (· (simp -implicitDefEqProofs; exact ⟨rfl, rfl⟩))) | (apply Run.condS; (· (simp -implicitDefEqProofs; exact rfl)))))
      refine Run.opF [1, 2, 3, 4] (writeString_tri true l3 (textM s).1 (by omega)) rfl (by simp -implicitDefEqProofs [bldH, bldA]) rfl (by simp -implicitDefEqProofs [bldH, bldA]) (by decide) (by rfl) (by simp -implicitDefEqProofs [bldH, bldA]) ?_
      rintro v0 Hs' ⟨rfl, rfl⟩
      (repeat (first | refine Run.adm rfl ?_ | refine Run.seq ?_ | (apply Run.opS rfl; (· (simp -implicitDefEqProofs; exact ⟨rfl, rfl⟩))) | (apply Run.condS; (· (simp -implicitDefEqProofs; exact rfl)))))
      have ih := ih2
      refine Run.mv [0, 1, 5, 3, 6] _ _ (by rfl) (by decide) (by simp -implicitDefEqProofs [hwk, bldA, hl4]) (by simp -implicitDefEqProofs [hwk, bldA, hl4]) (ih (k + 1) ?_ ?_)
      · omega
      · omega
    · have hk2' : ¬ (k : Int) < 2 := by omega
      obtain rfl : k = 2 := by omega
      clear ih2
      have hl3t : l3 = nb e.add.length ++ (e.add.take (i + 1)).flatMap tabBs := by
        rw [hl3D, hl2D, hlD, hsn]; simp [tabBs, nbs, twoBs]
      (repeat (first | refine Run.adm rfl ?_ | refine Run.seq ?_ | (apply Run.opS rfl; (· (simp -implicitDefEqProofs; exact ⟨rfl, rfl⟩))) | (apply Run.condS; (· (simp -implicitDefEqProofs; exact rfl)))))
      refine Run.mv [0, 1, 2, 3, 4] _ _ (by rfl) (by decide) (by simp -implicitDefEqProofs [hw, bldA, hl3t]) (by simp -implicitDefEqProofs [hw, bldA, hl3t]) (ih (i + 1) ?_ ?_)
      · omega
      · omega
  · obtain rfl : i = e.add.length := by omega
    rw [List.take_length] at hlD
    clear ih
    have hlt' : ¬ (e.add.length : Int) < e.add.length := by omega
    (repeat (first | refine Run.adm rfl ?_ | refine Run.seq ?_ | (apply Run.opS rfl; (· (simp -implicitDefEqProofs [encE]; exact ⟨rfl, rfl⟩))) | (apply Run.condS; (· (simp -implicitDefEqProofs [encE]; exact rfl)))))
    refine Run.freeze 5 (es := [(e.drop.length : Int)].map encN) (sz := 1) (by simp [encN]) ?_
    refine Run.mv [0, 1, 2, 3, 4] [(1, .ptr 0 0), (5, .ptr 1 0), (6, .fn 26 [.ptr 1 0]), (58, .fn 26 [.ptr 1 0]), (62, .vs ([(e.drop.length : Int)].map encN) 1)] [.row (encE e), .row (bldA 1 true 2 (l).length), .arr (byteEls (l)) 1, .ty 1 57 (some 2), .ty 2 5 none] (by rfl) (by decide) (by simp -implicitDefEqProofs [encE, encN, bldA]) (by simp -implicitDefEqProofs [encE, encN, bldA]) ?_
    refine Run.opF [1, 2, 3, 4] (put1_tri true l [(e.drop.length : Int)] (by simp; omega)) rfl (by simp -implicitDefEqProofs [bldH, bldA]) rfl (by simp -implicitDefEqProofs [bldH, bldA]) (by decide) (by rfl) (by simp -implicitDefEqProofs [bldH, bldA]) ?_
    rintro v0 Hs' ⟨rfl, ⟨hh, -⟩ | rfl⟩
    · cases hh
    obtain ⟨l2, hl2D⟩ : ∃ l2, l2 = l ++ nbs [(e.drop.length : Int)] := ⟨_, rfl⟩
    have hl2 : l2.length ≤ 22100 := by rw [hl2D, List.length_append]; have := nbs_len [(e.drop.length : Int)]; simp at this; omega
    rw [← hl2D]
    refine Run.mv [0, 1, 5, 3, 6] [(1, .ptr 0 0), (5, .ptr 1 0), (6, .fn 26 [.ptr 1 0])] [.row (encE e), .row (bldA 1 true 2 (l2).length), .arr (byteEls (l2)) 1, .ty 1 57 (some 2), .ty 2 5 none] (by rfl) (by decide) (by simp -implicitDefEqProofs [bldW, bldA]) (by simp -implicitDefEqProofs [bldW, bldA]) ?_
    (repeat (first | refine Run.adm rfl ?_ | refine Run.seq ?_ | (apply Run.opS rfl; (· (simp -implicitDefEqProofs [encE]; exact ⟨rfl, rfl⟩))) | (apply Run.condS; (· (simp -implicitDefEqProofs [encE]; exact rfl)))))
    refine Run.opF [1, 2, 3, 4] (put1_tri true l2 e.drop (by omega)) rfl (by simp -implicitDefEqProofs [bldH, bldA]) rfl (by simp -implicitDefEqProofs [bldH, bldA]) (by decide) (by rfl) (by simp -implicitDefEqProofs [bldH, bldA]) ?_
    rintro v0 Hs' ⟨rfl, hcase⟩
    obtain ⟨l3, hl3D⟩ : ∃ l3, l3 = l2 ++ nbs e.drop := ⟨_, rfl⟩
    have hl3 : l3.length ≤ 24100 := by rw [hl3D, List.length_append]; have := nbs_len e.drop; omega
    have hcase' : Hs' = bldH true l3 ∨ Hs' = bldW l3 := by
      rcases hcase with ⟨hh, rfl⟩ | rfl
      · left; rw [hl3D, hh]; simp [nbs]
      · right; rw [hl3D]
    refine cases2 hcase' [(1, .ptr 0 0), (5, .ptr 1 0), (6, .fn 26 [.ptr 1 0])] [.row (encE e), .row (bldA 1 true 2 (l3).length), .arr (byteEls (l3)) 1, .ty 1 57 (some 2), .ty 2 5 none] [0, 1, 2, 3, 4] [0, 1, 5, 3, 6] (by rfl) (by decide) (by simp) (by simp [bldH, bldA, encE]) (by rfl) (by decide) (by simp) (by simp [bldW, bldA, encE]) ?_
    (repeat (first | refine Run.adm rfl ?_ | refine Run.seq ?_ | (apply Run.opS rfl; (· (simp -implicitDefEqProofs [encE]; exact ⟨rfl, rfl⟩))) | (apply Run.condS; (· (simp -implicitDefEqProofs [encE]; exact rfl)))))
    refine Run.freeze 5 (es := [e.log, e.next].map encN) (sz := 1) (by simp [encN]) ?_
    refine Run.mv [0, 1, 2, 3, 4] [(1, .ptr 0 0), (5, .ptr 1 0), (6, .fn 26 [.ptr 1 0]), (68, .fn 26 [.ptr 1 0]), (73, .vs ([e.log, e.next].map encN) 1)] [.row (encE e), .row (bldA 1 true 2 (l3).length), .arr (byteEls (l3)) 1, .ty 1 57 (some 2), .ty 2 5 none] (by rfl) (by decide) (by simp -implicitDefEqProofs [encE, encN, bldA]) (by simp -implicitDefEqProofs [encE, encN, bldA]) ?_
    refine Run.opF [1, 2, 3, 4] (put1_tri true l3 [e.log, e.next] (by simp; omega)) rfl (by simp -implicitDefEqProofs [bldH, bldA]) rfl (by simp -implicitDefEqProofs [bldH, bldA]) (by decide) (by rfl) (by simp -implicitDefEqProofs [bldH, bldA]) ?_
    rintro v0 Hs' ⟨rfl, ⟨hh, -⟩ | rfl⟩
    · cases hh
    have hfin : l3 ++ nbs [e.log, e.next] = bytesE e := by
      rw [hl3D, hl2D, hlD]; simp [bytesE, nbs]
    have hfl : (bytesE e).length ≤ 24200 := by rw [← hfin, List.length_append]; have := nbs_len [e.log, e.next]; simp at this; omega
    have hne : bytesE e ≠ [] := by
      intro h0
      have h1 : (nb e.add.length) = [] := by
        rw [bytesE] at h0; simp only [List.append_eq_nil_iff] at h0; exact h0.1.1.1.1.1
      rw [nb, vputM, if_pos (by omega)] at h1
      exact vput_ne _ h1
    rw [hfin]
    refine Run.mv [0, 1, 5, 3, 6] [(1, .ptr 0 0), (5, .ptr 1 0), (6, .fn 26 [.ptr 1 0])] [.row (encE e), .row (bldA 1 true 2 (bytesE e).length), .arr (byteEls (bytesE e)) 1, .ty 1 57 (some 2), .ty 2 5 none] (by rfl) (by decide) (by simp -implicitDefEqProofs [bldW, bldA]) (by simp -implicitDefEqProofs [bldW, bldA]) ?_
    (repeat (first | refine Run.adm rfl ?_ | refine Run.seq ?_ | (apply Run.opS rfl; (· (simp -implicitDefEqProofs; exact ⟨rfl, rfl⟩))) | (apply Run.condS; (· (simp -implicitDefEqProofs; exact rfl)))))
    refine Run.opF [1, 2, 3, 4] (string_tri (bytesE e) hne (by omega)) rfl (by simp -implicitDefEqProofs [bldH, bldA]) rfl (by simp -implicitDefEqProofs [bldH, bldA]) (by decide) (by rfl) (by simp -implicitDefEqProofs [bldH, bldA]) ?_
    rintro v0 Hs' ⟨rfl, rfl⟩
    (repeat (first | refine Run.adm rfl ?_ | refine Run.seq ?_ | (apply Run.opS rfl; (· (simp -implicitDefEqProofs; exact ⟨rfl, rfl⟩))) | (apply Run.condS; (· (simp -implicitDefEqProofs; exact rfl)))))
    refine Run.mv [] [(2, .str (bytesE e)), (3, .int .i64 0)] [] (by rfl) (by decide) (by simp -implicitDefEqProofs) (by simp -implicitDefEqProofs) ?_
    refine Run.ret0 rfl Try.func11 r11_ok trivial (by simp [r11]; rfl) ?_ (by simp)
    simp [putM, hm]
theorem put_at (e : Ed) (H : List O) : Tri Try.prog 11 [.agg (encE e)] H (fun v H' => v = .tup [.str (putM e).1, .int .i64 (putM e).2] ∧ H' = H) := (put_tri e).at rfl rfl H

end Go.Proofs.Ytpipgcmiaccdkaa
