/-
  Layer 12, part V: the document's Apply.
-/
import Derived.Test.YtpipgcmiaccdkaaManU
namespace Go.Proofs.Ytpipgcmiaccdkaa
open Sx Go
set_option maxRecDepth 100000
set_option linter.unusedSimpArgs false
set_option linter.unusedVariables false
set_option linter.unnecessarySimpa false
attribute [local simp] stepV condR boundsC appendG appendO copyV srcC guardB isCall opStep Opd.ev put readAt aBin aUn args0 V.celled V.ones V.one V.cells putAt bounds bound1 elemsOf srcOf appendV fillAt fillEl V.pures V.pure unwind evs ARes.ev mkRes V.ren V.renL O.ren eqCells eq1 aEq aMM hasTy hasTyN okTy mmGo Known HLe OLe VsLe.refl VLe.refl VLe.cap Stay VsLe V.frz V.frzL O.frz fr clearV rn KnownR Objs OLeO ObjsE nm back setAll ren_ite take_map_len List.take_of_length_le
attribute [local simp ↓] upd_app tl_cons tl_nil
attribute [local simp] encT_ren encT_ones encT_len encT_take encN_ren encN_ones encN_len encN_take
attribute [local simp] encE_ren encE_len encE_take encZ_ren encZ_len encZ_take

def z0 : St := ⟨[], 0, 0⟩
def hasId (l : List Tb) (n : Int) : Bool := l.any (fun t => decide (t.id = n))
def kept (s : St) (e : Ed) : List Tb := s.tabs.filter (fun t => !decide (t.id ∈ e.drop))
def built (s : St) (e : Ed) : List Tb := e.add.foldl putT (kept s e)
/-- what of an edit fits -/
def dropsOk (s : St) (e : Ed) : Prop := (∀ d ∈ e.drop, hasId s.tabs d = true) ∧ e.drop.Nodup
def addsOk (s : St) (e : Ed) : Prop := (∀ t ∈ e.add, hasId s.tabs t.id = false ∧ t.id < e.next) ∧ (e.add.map (·.id)).Nodup
def okA (s : St) (e : Ed) : Prop := s.log ≤ e.log ∧ s.next ≤ e.next ∧ dropsOk s e ∧ addsOk s e ∧ ApartP (built s e)
instance (s e) : Decidable (dropsOk s e) := by unfold dropsOk; infer_instance
instance (s e) : Decidable (addsOk s e) := by unfold addsOk; infer_instance
instance (s e) : Decidable (okA s e) := by unfold okA; infer_instance
def applyR (s : St) (e : Ed) : St × Int := if mayE e = true then (if okA s e then (⟨built s e, e.log, e.next⟩, 0) else (z0, 120)) else (z0, 1)

theorem take_snoc {α : Type} {l : List α} {i : Nat} {x : α} (h : l[i]? = some x) : l.take (i + 1) = l.take i ++ [x] := by rw [List.take_add_one, h]; rfl
theorem nodup_take {α : Type} {l : List α} {i : Nat} {x : α} (h : l[i]? = some x) : (l.take (i + 1)).Nodup ↔ (l.take i).Nodup ∧ x ∉ l.take i := by
  rw [take_snoc h, List.nodup_append]
  simp
  intro _
  constructor
  · intro h hx; exact h x hx rfl
  · intro h a ha e; exact h (e ▸ ha)
theorem find_self {l : List Tb} {i : Nat} {t : Tb} (h : l[i]? = some t) : findI l t.id = (i : Int) ↔ t.id ∉ (l.take i).map (·.id) := by
  unfold findI
  constructor
  · intro hf
    cases hx : l.findIdx? (fun x => decide (x.id = t.id)) with
    | none => rw [hx] at hf; simp [idxI] at hf
    | some j =>
      rw [hx] at hf
      simp only [idxI] at hf
      obtain ⟨h1, h2, h3⟩ := List.findIdx?_eq_some_iff_getElem.1 hx
      obtain rfl : j = i := by omega
      intro hm
      obtain ⟨a, ha, hai⟩ := List.mem_map.1 hm
      obtain ⟨k, hk, rfl⟩ := List.mem_iff_getElem.1 ha
      rw [List.length_take] at hk
      have := h3 k (by omega)
      simp only [List.getElem_take] at hai
      simp [hai] at this
  · intro hn
    have hl := (List.getElem?_eq_some_iff.1 h).1
    have hx : l.findIdx? (fun x => decide (x.id = t.id)) = some i := by
      refine List.findIdx?_eq_some_iff_getElem.2 ⟨hl, by simp [(List.getElem?_eq_some_iff.1 h).2], fun k hk => ?_⟩
      simp only [decide_eq_true_eq]
      intro he
      exact hn (List.mem_map.2 ⟨l[k], List.mem_iff_getElem.2 ⟨k, by rw [List.length_take]; omega, by simp⟩, he⟩)
    rw [hx]; rfl
theorem ne_of_hasId {l : List Tb} {n : Int} : (0 ≤ findI l n) ↔ hasId l n = true := by
  have := findI_nn l n
  unfold hasId
  rw [← this]; simp
theorem foldl_len (f : List Tb) : ∀ (l : List Tb), (f.foldl putT l).length = l.length + f.length := by
  induction f with
  | nil => intro l; simp
  | cons t f ih => intro l; simp only [List.foldl_cons, ih, putT_len, List.length_cons]; omega

abbrev RunA (s : St) (e : Ed) (c : Cfg) : Prop := Run ⟨Try.prog, 19, Try.f19.ntmps, [], fun v H => v = .tup [.agg (encZ (applyR s e).1), .int .i64 (applyR s e).2] ∧ H = []⟩ c

theorem ra_bad {s : St} {e : Ed} (hm : mayE e = true) (hn : ¬ okA s e) {k : List AItem} {t : T} {h : List O} (hk : AtEnd k) (h4 : t 4 = .ptr 2 0) (h5 : t 5 = .int .i64 120) (ho : h[2]? = some (.row [.nils, .int .i64 0, .int .i64 0])) : RunA s e ⟨k, t, h⟩ := by
  refine Run.mv [2] [(4, .ptr 0 0), (5, .int .i64 120)] [.row (encZ z0)] (by rfl) (by decide) (by simp [h4, h5]) (by simp [ho, encZ, z0, VLe.nils]) ?_
  refine Run.ret0 rfl Try.func19 r19_ok hk (by simp [r19]; rfl) ?_ (by simp [encZ, z0])
  have : applyR s e = (z0, 120) := by rw [applyR, if_pos hm, if_neg hn]
  simp [this]

def k19d : AC := (AC.seq (AC.seq (AC.region c19r30) (AC.cond (Opd.t 144) (AC.seq (AC.region c19r31) AC.ret) AC.skip)) (AC.seq (AC.region c19r32) AC.ret))
def k19c : AC := (AC.seq (AC.seq (AC.region c19r23) (AC.block 8 (AC.loop c19l4))) k19d)
def k19b : AC := (AC.seq (AC.region c19r13) (AC.seq (AC.seq (AC.region c19r14) (AC.block 4 (AC.loop c19l2))) k19c))
def raH (s : St) (e : Ed) : List O := [.row (encZ s), .row (encE e), .row [.nils, .int .i64 0, .int .i64 0]]

theorem ra_d {s : St} {e : Ed} (hm : mayE e = true) (h1 : s.log ≤ e.log) (h2 : s.next ≤ e.next) (h3 : dropsOk s e) (h4 : addsOk s e) (hl : (built s e).length ≤ 1000000) :
    RunA s e ⟨[.code k19d], tl [(2, .ptr 0 0), (3, .ptr 1 0), (4, .ptr 2 0), (8, .vs ((built s e).map encT) 4)], raH s e⟩ := by
  unfold k19d raH
  (repeat (first | refine Run.adm rfl ?_ | refine Run.seq ?_ | (apply Run.opS rfl; (· (simp -implicitDefEqProofs; exact ⟨rfl, rfl⟩))) | (apply Run.condS; (· (simp -implicitDefEqProofs; exact rfl)))))
  refine Run.opC rfl rfl rfl (apart_at _ hl _) ?_
  rintro v h' ⟨rfl, rfl⟩
  by_cases ha : ApartP (built s e)
  · have hok : applyR s e = (⟨built s e, e.log, e.next⟩, 0) := by rw [applyR, if_pos hm, if_pos ⟨h1, h2, h3, h4, ha⟩]
    generalize built s e = l at *
    (repeat (first | refine Run.adm rfl ?_ | refine Run.seq ?_ | (apply Run.opS rfl; (· (simp -implicitDefEqProofs [ha, encE]; exact ⟨rfl, rfl⟩))) | (apply Run.condS; (· (simp -implicitDefEqProofs [ha, encE]; exact rfl)))))
    refine Run.mv [2] [(4, .ptr 0 0), (5, .int .i64 0)] [.row (encZ ⟨l, e.log, e.next⟩)] (by rfl) (by decide) (by simp -implicitDefEqProofs [encZ]) (by simp -implicitDefEqProofs [encZ]) ?_
    refine Run.ret0 rfl Try.func19 r19_ok trivial (by simp [r19]; rfl) ?_ (by simp [encZ])
    simp [hok]
  · (repeat (first | refine Run.adm rfl ?_ | refine Run.seq ?_ | (apply Run.opS rfl; (· (simp -implicitDefEqProofs [ha]; exact ⟨rfl, rfl⟩))) | (apply Run.condS; (· (simp -implicitDefEqProofs [ha]; exact rfl)))))
    exact ra_bad hm (fun h => ha h.2.2.2.2) trivial (by simp) (by simp) (by simp)

theorem addsOk_snoc {s : St} {e : Ed} {i : Nat} {t : Tb} (h : e.add[i]? = some t) : addsOk s { e with add := e.add.take (i + 1) } ↔ addsOk s { e with add := e.add.take i } ∧ (hasId s.tabs t.id = false ∧ findI e.add t.id = i ∧ t.id < e.next) := by
  unfold addsOk
  simp only
  rw [take_snoc h, find_self h, List.map_append, List.nodup_append]
  simp only [List.mem_append, List.map_cons, List.map_nil, List.mem_singleton, List.nodup_cons, List.not_mem_nil, not_false_eq_true, List.nodup_nil, and_true, ne_eq, List.mem_map]
  constructor
  · rintro ⟨h1, h2, -, h3⟩
    exact ⟨⟨fun x hx => h1 x (.inl hx), h2⟩, (h1 t (.inr rfl)).1, fun ⟨a, ha, he⟩ => h3 _ ⟨a, ha, he⟩ _ rfl rfl, (h1 t (.inr rfl)).2⟩
  · rintro ⟨⟨h1, h2⟩, h3, h4, h5⟩
    refine ⟨fun x hx => ?_, h2, trivial, fun a ha b hb he => ?_⟩
    · rcases hx with hx | rfl
      · exact h1 x hx
      · exact ⟨h3, h5⟩
    · subst hb; subst he; exact h4 ha
theorem addsOk_take {s : St} {e : Ed} (h : addsOk s e) (i : Nat) : addsOk s { e with add := e.add.take i } :=
  ⟨fun t ht => h.1 t (List.mem_of_mem_take ht), by simp only; rw [List.map_take]; exact h.2.sublist (List.take_sublist _ _)⟩

theorem ra_c {s : St} {e : Ed} (hm : mayE e = true) (h1 : s.log ≤ e.log) (h2 : s.next ≤ e.next) (h3 : dropsOk s e) (hs : s.tabs.length ≤ 500000) :
    RunA s e ⟨[.code k19c], tl [(2, .ptr 0 0), (3, .ptr 1 0), (4, .ptr 2 0), (8, .vs ((kept s e).map encT) 4)], raH s e⟩ := by
  have hal : e.add.length ≤ 128 := (mayE_spec hm).1
  have hkl : (kept s e).length ≤ s.tabs.length := List.length_filter_le _ _
  have hd := fun h4 => ra_d hm h1 h2 h3 h4 (by rw [built, foldl_len]; omega)
  unfold k19c
  obtain ⟨K, hK⟩ : ∃ K, K = k19d := ⟨_, rfl⟩
  rw [← hK] at hd ⊢
  (repeat (first | refine Run.adm rfl ?_ | refine Run.seq ?_ | (apply Run.opS rfl; (· (simp -implicitDefEqProofs; exact ⟨rfl, rfl⟩))) | (apply Run.condS; (· (simp -implicitDefEqProofs; exact rfl)))))
  refine Run.loopC [0, 1, 2] (fun (i : Nat) => ([(2, .ptr 0 0), (3, .ptr 1 0), (4, .ptr 2 0), (8, .vs (((e.add.take i).foldl putT (kept s e)).map encT) 4), (12, .int .i64 i)], raH s e)) (fun i => i ≤ e.add.length ∧ addsOk s { e with add := e.add.take i }) (fun i => e.add.length - i) 0 ⟨Nat.zero_le _, by simp [addsOk]⟩ (by rfl) (by decide) (by simp) (by simp [raH, encZ, encE]) ?_
  rintro i ⟨hi, hok⟩ ih
  by_cases hlt : i < e.add.length
  · obtain ⟨t, ht, hti, -, -⟩ := getL hlt
    have hlt' : (i : Int) < e.add.length := by omega
    have hw := wrap_small (n := (i : Int) + 1) (by omega) (by omega)
    have hnx : (e.add.take (i + 1)).foldl putT (kept s e) = putT ((e.add.take i).foldl putT (kept s e)) t := by rw [take_snoc ht, List.foldl_append]; rfl
    have hll : ((e.add.take i).foldl putT (kept s e)).length ≤ 1000000 := by rw [foldl_len, List.length_take]; omega
    have hsn := addsOk_snoc (s := s) ht
    have hbad : ¬ (hasId s.tabs t.id = false ∧ findI e.add t.id = i ∧ t.id < e.next) → ¬ okA s e := fun hn h => hn (hsn.1 (addsOk_take h.2.2.2.1 (i + 1))).2
    generalize (e.add.take i).foldl putT (kept s e) = l at *
    have f1 := fun H => find_at s.tabs t.id (by omega) H
    have f2 := fun H => find_at e.add t.id (by omega) H
    have p1 := fun H => put_at2 l t hll H
    simp only [encT] at p1
    unfold raH
    (repeat (first | refine Run.adm rfl ?_ | refine Run.seq ?_ | (apply Run.opS rfl; (· (simp -implicitDefEqProofs [encZ, encE, hlt, hlt', ht, hti, encT]; exact ⟨rfl, rfl⟩))) | (apply Run.condS; (· (simp -implicitDefEqProofs [encZ, encE, hlt, hlt', ht, hti, encT]; exact rfl)))))
    refine Run.opC rfl rfl rfl (f1 _) ?_
    rintro v h' ⟨rfl, rfl⟩
    by_cases c1 : 0 ≤ findI s.tabs t.id
    · (repeat (first | refine Run.adm rfl ?_ | refine Run.seq ?_ | (apply Run.opS rfl; (· (simp -implicitDefEqProofs [c1]; exact ⟨rfl, rfl⟩))) | (apply Run.condS; (· (simp -implicitDefEqProofs [c1]; exact rfl)))))
      exact ra_bad hm (hbad (fun h => by rw [ne_of_hasId.1 c1] at h; cases h.1)) trivial (by simp) (by simp) (by simp)
    have c1' : hasId s.tabs t.id = false := by
      cases hh : hasId s.tabs t.id with
      | false => rfl
      | true => exact absurd (ne_of_hasId.2 hh) c1
    (repeat (first | refine Run.adm rfl ?_ | refine Run.seq ?_ | (apply Run.opS rfl; (· (simp -implicitDefEqProofs [c1]; exact ⟨rfl, rfl⟩))) | (apply Run.condS; (· (simp -implicitDefEqProofs [c1]; exact rfl)))))
    refine Run.opC rfl (by simp [c1]) rfl (f2 _) ?_
    rintro v h' ⟨rfl, rfl⟩
    by_cases c2 : findI e.add t.id = (i : Int)
    rotate_left
    · (repeat (first | refine Run.adm rfl ?_ | refine Run.seq ?_ | (apply Run.opS rfl; (· (simp -implicitDefEqProofs [c1, c2]; exact ⟨rfl, rfl⟩))) | (apply Run.condS; (· (simp -implicitDefEqProofs [c1, c2]; exact rfl)))))
      exact ra_bad hm (hbad (fun h => c2 h.2.1)) trivial (by simp) (by simp) (by simp)
    by_cases c3 : t.id < e.next
    rotate_left
    · have c3' : e.next ≤ t.id := by omega
      (repeat (first | refine Run.adm rfl ?_ | refine Run.seq ?_ | (apply Run.opS rfl; (· (simp -implicitDefEqProofs [c1, c2, c3']; exact ⟨rfl, rfl⟩))) | (apply Run.condS; (· (simp -implicitDefEqProofs [c1, c2, c3']; exact rfl)))))
      exact ra_bad hm (hbad (fun h => c3 h.2.2)) trivial (by simp) (by simp) (by simp)
    have c3' : ¬ e.next ≤ t.id := by omega
    (repeat (first | refine Run.adm rfl ?_ | refine Run.seq ?_ | (apply Run.opS rfl; (· (simp -implicitDefEqProofs [c1, c2, c3']; exact ⟨rfl, rfl⟩))) | (apply Run.condS; (· (simp -implicitDefEqProofs [c1, c2, c3']; exact rfl)))))
    refine Run.opC rfl rfl rfl (p1 _) ?_
    rintro v h' ⟨rfl, rfl⟩
    (repeat (first | refine Run.adm rfl ?_ | refine Run.seq ?_ | (apply Run.opS rfl; (· (simp -implicitDefEqProofs; exact ⟨rfl, rfl⟩))) | (apply Run.condS; (· (simp -implicitDefEqProofs; exact rfl)))))
    refine Run.mv [0, 1, 2] _ _ (by rfl) (by decide) (by simp -implicitDefEqProofs [hw, hnx, encZ, encE, raH]) (by simp -implicitDefEqProofs [hw, hnx, encZ, encE, raH]) (ih (i + 1) ?_ ?_)
    · exact ⟨by omega, hsn.2 ⟨hok, c1', c2, c3⟩⟩
    · omega
  · have : i = e.add.length := by omega
    subst this
    rw [List.take_length] at hok ⊢
    unfold raH
    (repeat (first | refine Run.adm rfl ?_ | refine Run.seq ?_ | (apply Run.opS rfl; (· (simp -implicitDefEqProofs [encE, encZ]; exact ⟨rfl, rfl⟩))) | (apply Run.condS; (· (simp -implicitDefEqProofs [encE, encZ]; exact rfl)))))
    refine Run.mv [0, 1, 2] _ _ (by rfl) (by decide) ?_ ?_ (hd hok)
    · simp [built]
    · simp [raH, encZ, encE]

theorem ra_b {s : St} {e : Ed} (hm : mayE e = true) (h1 : s.log ≤ e.log) (h2 : s.next ≤ e.next) (h3 : dropsOk s e) (hs : s.tabs.length ≤ 500000) :
    RunA s e ⟨[.code k19b], tl [(2, .ptr 0 0), (3, .ptr 1 0), (4, .ptr 2 0)], raH s e⟩ := by
  have hdl : e.drop.length ≤ 128 := (mayE_spec hm).2.1
  have hd := ra_c hm h1 h2 h3 hs
  unfold k19b
  obtain ⟨K, hK⟩ : ∃ K, K = k19c := ⟨_, rfl⟩
  rw [← hK] at hd ⊢
  (repeat (first | refine Run.adm rfl ?_ | refine Run.seq ?_ | (apply Run.opS rfl; (· (simp -implicitDefEqProofs; exact ⟨rfl, rfl⟩))) | (apply Run.condS; (· (simp -implicitDefEqProofs; exact rfl)))))
  refine Run.nilA 8 4 (by simp) ?_
  (repeat (first | refine Run.adm rfl ?_ | refine Run.seq ?_ | (apply Run.opS rfl; (· (simp -implicitDefEqProofs; exact ⟨rfl, rfl⟩))) | (apply Run.condS; (· (simp -implicitDefEqProofs; exact rfl)))))
  obtain ⟨p, hp⟩ : ∃ p, p = fun t : Tb => !decide (t.id ∈ e.drop) := ⟨_, rfl⟩
  have hkp : kept s e = s.tabs.filter p := by rw [hp]; rfl
  rw [hkp] at hd
  refine Run.loopC [0, 1, 2, 3] (fun (i : Nat) => ([(2, .ptr 0 0), (3, .ptr 1 0), (4, .ptr 2 0), (8, .sl 3 0 ((s.tabs.take i).filter p).length 4 none), (9, .int .i64 i)], raH s e ++ [.arr (((s.tabs.take i).filter p).map encT) 4])) (fun i => i ≤ s.tabs.length) (fun i => s.tabs.length - i) 0 (by simp) (by rfl) (by decide) (by simp [raH]) (by simp [raH, encZ, encE]) ?_
  intro i hi ihO
  have hol : ((s.tabs.take i).filter p).length ≤ i := Nat.le_trans (List.length_filter_le _ _) (by simp; omega)
  by_cases hlt : i < s.tabs.length
  · obtain ⟨t, ht, hti, -, -⟩ := getL hlt
    have hlt' : (i : Int) < s.tabs.length := by omega
    have hw := wrap_small (n := (i : Int) + 1) (by omega) (by omega)
    have hnx : (s.tabs.take (i + 1)).filter p = (s.tabs.take i).filter p ++ (if p t = true then [t] else []) := by
      rw [take_snoc ht, List.filter_append]
      congr 1
      cases h : p t <;> simp [h]
    have hpt : p t = !decide (t.id ∈ e.drop) := by rw [hp]
    have ihq := ihO (i + 1) (by omega) (by omega)
    simp only [hnx] at ihq
    clear ihO
    generalize (s.tabs.take i).filter p = o at *
    have hbb : (o.length + 1) * 48 ≤ 70368744177664 := by omega
    unfold raH
    (repeat (first | refine Run.adm rfl ?_ | refine Run.seq ?_ | (apply Run.opS rfl; (· (simp -implicitDefEqProofs [encZ, encE, hlt, hlt']; exact ⟨rfl, rfl⟩))) | (apply Run.condS; (· (simp -implicitDefEqProofs [encZ, encE, hlt, hlt']; exact rfl)))))
    refine Run.loopC [0, 1, 2, 3] (fun (k : Nat) => ([(2, .ptr 0 0), (3, .ptr 1 0), (4, .ptr 2 0), (8, .sl 3 0 o.length 4 none), (9, .int .i64 i), (10, .bool (decide (t.id ∈ e.drop.take k))), (11, .int .i64 k)], raH s e ++ [.arr (o.map encT) 4])) (fun k => k ≤ e.drop.length) (fun k => e.drop.length - k) 0 (by simp) (by rfl) (by decide) (by simp) (by simp [raH, encZ, encE]) ?_
    intro k hk ih
    by_cases hkl : k < e.drop.length
    · obtain ⟨d, hdk, hdi, -, -⟩ := getL hkl
      have hkl' : (k : Int) < e.drop.length := by omega
      have hwk := wrap_small (n := (k : Int) + 1) (by omega) (by omega)
      have hnk : decide (t.id ∈ e.drop.take (k + 1)) = (decide (t.id ∈ e.drop.take k) || decide (d = t.id)) := by
        rw [take_snoc hdk]; simp [eq_comm]
      have ihk := ih (k + 1) (by omega) (by omega)
      simp only [hnk] at ihk
      clear ih
      generalize decide (t.id ∈ e.drop.take k) = b at *
      unfold raH
      (repeat (first | refine Run.adm rfl ?_ | refine Run.seq ?_ | (apply Run.opS rfl; (· (simp -implicitDefEqProofs [encZ, encE, hkl, hkl']; exact ⟨rfl, rfl⟩))) | (apply Run.condS; (· (simp -implicitDefEqProofs [encZ, encE, hkl, hkl']; exact rfl)))))
      refine Run.drawn prog_mixed ?_
      show RunD _ c19d2 [0, 1, 2, 3, 4, 5, 6, 7, 8, 9, 10, 11, 12, 13, 14, 15] [] _ _ _
      cases b with
      | true =>
        refine RunD.flow [0, 1, 2, 3, 4, 5, 6, 7, 8, 9, 10, 11, 12, 13, 14] (by kernel_rfl) (by decide +kernel) (by decide +kernel) (by decide) trivial ?_; (repeat (first | refine execQ_E rfl ?_ | (apply execQ_S rfl; (· (simp -implicitDefEqProofs [encZ, encE, hkl, hkl', hdk, hdi, hlt, hlt', ht, hti, encT, encN]; exact ⟨rfl, rfl⟩))))); intro hpo
        refine RunD.alt1 15 (by kernel_rfl) (by kernel_rfl) hpo ?_
        (apply AStep.S rfl; (· (simp -implicitDefEqProofs; exact ⟨rfl, rfl⟩)))
        refine RunD.fin (by kernel_rfl) (by trivial) ?_
        (repeat (first | refine Run.adm rfl ?_ | refine Run.seq ?_ | (apply Run.opS rfl; (· (simp -implicitDefEqProofs; exact ⟨rfl, rfl⟩))) | (apply Run.condS; (· (simp -implicitDefEqProofs; exact rfl)))))
        refine Run.mv [0, 1, 2, 3] _ _ (by rfl) (by decide) ?_ ?_ ihk
        · simp [hwk]
        · simp [raH, encZ, encE]
      | false =>
        refine RunD.flow [0, 1, 2, 3, 4, 5, 6, 7, 8, 9, 10, 11, 12, 13, 14] (by kernel_rfl) (by decide +kernel) (by decide +kernel) (by decide) trivial ?_; (repeat (first | refine execQ_E rfl ?_ | (apply execQ_S rfl; (· (simp -implicitDefEqProofs [encZ, encE, hkl, hkl', hdk, hdi, hlt, hlt', ht, hti, encT, encN]; exact ⟨rfl, rfl⟩))))); intro hpo
        refine RunD.alt1 15 (by kernel_rfl) (by kernel_rfl) hpo ?_
        (apply AStep.S rfl; (· (simp -implicitDefEqProofs; exact ⟨rfl, rfl⟩)))
        refine RunD.fin (by kernel_rfl) (by trivial) ?_
        (repeat (first | refine Run.adm rfl ?_ | refine Run.seq ?_ | (apply Run.opS rfl; (· (simp -implicitDefEqProofs; exact ⟨rfl, rfl⟩))) | (apply Run.condS; (· (simp -implicitDefEqProofs; exact rfl)))))
        refine Run.mv [0, 1, 2, 3] _ _ (by rfl) (by decide) ?_ ?_ ihk
        · simp [hwk]
        · simp [raH, encZ, encE]
    · have : k = e.drop.length := by omega
      subst this
      clear ih
      rw [List.take_length]
      cases hin : decide (t.id ∈ e.drop) with
      | true =>
        rw [hpt, hin] at ihq
        simp only [Bool.not_true, Bool.false_eq_true, if_false, List.append_nil] at ihq
        unfold raH
        (repeat (first | refine Run.adm rfl ?_ | refine Run.seq ?_ | (apply Run.opS rfl; (· (simp -implicitDefEqProofs [encZ, encE]; exact ⟨rfl, rfl⟩))) | (apply Run.condS; (· (simp -implicitDefEqProofs [encZ, encE]; exact rfl)))))
        refine Run.mv [0, 1, 2, 3] _ _ (by rfl) (by decide) ?_ ?_ ihq
        · simp [hw]
        · simp [raH, encZ, encE]
      | false =>
        rw [hpt, hin] at ihq
        simp only [Bool.not_false, if_true] at ihq
        unfold raH
        (repeat (first | refine Run.adm rfl ?_ | refine Run.seq ?_ | (apply Run.opS rfl; (· (simp -implicitDefEqProofs [encZ, encE, hlt, hlt', ht, hti, encT, hbb]; exact ⟨rfl, rfl⟩))) | (apply Run.condS; (· (simp -implicitDefEqProofs [encZ, encE, hlt, hlt', ht, hti, encT, hbb]; exact rfl)))))
        refine Run.mv [0, 1, 2, 5] _ _ (by rfl) (by decide) ?_ ?_ ihq
        · simp [hw]
        · simp [raH, encZ, encE, encT]
  · have : i = s.tabs.length := by omega
    subst this
    clear ihO
    rw [List.take_length]
    generalize s.tabs.filter p = o at *
    unfold raH
    (repeat (first | refine Run.adm rfl ?_ | refine Run.seq ?_ | (apply Run.opS rfl; (· (simp -implicitDefEqProofs [encZ, encE]; exact ⟨rfl, rfl⟩))) | (apply Run.condS; (· (simp -implicitDefEqProofs [encZ, encE]; exact rfl)))))
    refine Run.freeze 3 (es := o.map encT) (sz := 4) (by simp) ?_
    refine Run.mv [0, 1, 2] _ _ (by rfl) (by decide) ?_ ?_ hd
    · simp
    · simp [raH, encZ, encE]

theorem dropsOk_snoc {s : St} {e : Ed} {i : Nat} {d : Int} (h : e.drop[i]? = some d) : dropsOk s { e with drop := e.drop.take (i + 1) } ↔ dropsOk s { e with drop := e.drop.take i } ∧ hasId s.tabs d = true ∧ d ∉ e.drop.take i := by
  unfold dropsOk
  simp only
  rw [nodup_take h, take_snoc h]
  simp only [List.mem_append, List.mem_singleton]
  constructor
  · rintro ⟨h1, h2, h3⟩
    exact ⟨⟨fun x hx => h1 x (.inl hx), h2⟩, h1 d (.inr rfl), h3⟩
  · rintro ⟨⟨h1, h2⟩, h3, h4⟩
    exact ⟨fun x hx => hx.elim (h1 x) (fun e => e ▸ h3), h2, h4⟩
theorem dropsOk_take {s : St} {e : Ed} (h : dropsOk s e) (i : Nat) : dropsOk s { e with drop := e.drop.take i } :=
  ⟨fun t ht => h.1 t (List.mem_of_mem_take ht), h.2.sublist (List.take_sublist _ _)⟩

theorem rapply_tri (s : St) (e : Ed) (hs : s.tabs.length ≤ 500000) : Tri Try.prog 19 [.agg (encZ s), .agg (encE e)] [] (fun v H => v = .tup [.agg (encZ (applyR s e).1), .int .i64 (applyR s e).2] ∧ H = []) := by
  refine Tri.of_run' Try.func19 rfl c19_ok (by simp [Try.ntmps19]) ?_
  have hmy := fun H => rmay_at e H
  simp only [encE] at hmy
  have hb : ∀ {x}, mayE e = true → s.log ≤ e.log → s.next ≤ e.next → x = dropsOk s e → x → RunA s e ⟨[.code k19b], tl [(2, .ptr 0 0), (3, .ptr 1 0), (4, .ptr 2 0)], raH s e⟩ := fun hm h1 h2 hx h3 => ra_b hm h1 h2 (hx ▸ h3) hs
  (repeat (first | refine Run.adm rfl ?_ | refine Run.seq ?_ | (apply Run.opS rfl; (· (simp -implicitDefEqProofs [encZ, encE]; exact ⟨rfl, rfl⟩))) | (apply Run.condS; (· (simp -implicitDefEqProofs [encZ, encE]; exact rfl)))))
  refine Run.opC rfl rfl rfl (hmy _) ?_
  rintro v h' ⟨rfl, rfl⟩
  cases hm : mayE e with
  | false =>
    (repeat (first | refine Run.adm rfl ?_ | refine Run.seq ?_ | (apply Run.opS rfl; (· (simp -implicitDefEqProofs [hm]; exact ⟨rfl, rfl⟩))) | (apply Run.condS; (· (simp -implicitDefEqProofs [hm]; exact rfl)))))
    refine Run.mv [2] [(4, .ptr 0 0), (5, .int .i64 1)] [.row (encZ z0)] (by rfl) (by decide) (by simp) (by simp [encZ, z0, VLe.nils]) ?_
    refine Run.ret0 rfl Try.func19 r19_ok trivial (by simp [r19]; rfl) ?_ (by simp [encZ, z0])
    have : applyR s e = (z0, 1) := by rw [applyR, if_neg (by simp [hm])]
    simp [this]
  | true =>
  by_cases h1 : s.log ≤ e.log
  rotate_left
  · have h1' : e.log < s.log := by omega
    (repeat (first | refine Run.adm rfl ?_ | refine Run.seq ?_ | (apply Run.opS rfl; (· (simp -implicitDefEqProofs [hm, h1']; exact ⟨rfl, rfl⟩))) | (apply Run.condS; (· (simp -implicitDefEqProofs [hm, h1']; exact rfl)))))
    exact ra_bad hm (fun h => h1 h.1) trivial (by simp) (by simp) (by simp)
  have h1' : ¬ e.log < s.log := by omega
  by_cases h2 : s.next ≤ e.next
  rotate_left
  · have h2' : e.next < s.next := by omega
    (repeat (first | refine Run.adm rfl ?_ | refine Run.seq ?_ | (apply Run.opS rfl; (· (simp -implicitDefEqProofs [hm, h1', h2']; exact ⟨rfl, rfl⟩))) | (apply Run.condS; (· (simp -implicitDefEqProofs [hm, h1', h2']; exact rfl)))))
    exact ra_bad hm (fun h => h2 h.2.1) trivial (by simp) (by simp) (by simp)
  have h2' : ¬ e.next < s.next := by omega
  have hdl : e.drop.length ≤ 128 := (mayE_spec hm).2.1
  have hb := fun h3 => ra_b hm h1 h2 h3 hs
  (repeat (first | refine Run.adm rfl ?_ | refine Run.seq ?_ | (apply Run.opS rfl; (· (simp -implicitDefEqProofs [hm, h1', h2']; exact ⟨rfl, rfl⟩))) | (apply Run.condS; (· (simp -implicitDefEqProofs [hm, h1', h2']; exact rfl)))))
  show Run _ ⟨[.code (.loop c19l0), .endB 0, .code k19b], _, _⟩
  obtain ⟨K, hK⟩ : ∃ K, K = k19b := ⟨_, rfl⟩
  rw [← hK] at hb ⊢
  refine Run.loopC [0, 1, 2] (fun (i : Nat) => ([(2, .ptr 0 0), (3, .ptr 1 0), (4, .ptr 2 0), (6, .int .i64 i)], raH s e)) (fun i => i ≤ e.drop.length ∧ dropsOk s { e with drop := e.drop.take i }) (fun i => e.drop.length - i) 0 ⟨Nat.zero_le _, by simp [dropsOk]⟩ (by rfl) (by decide) (by simp) (by simp [raH, encZ, encE]) ?_
  rintro i ⟨hi, hok⟩ ihO
  by_cases hlt : i < e.drop.length
  · obtain ⟨d, hd, hdi, -, -⟩ := getL hlt
    have hlt' : (i : Int) < e.drop.length := by omega
    have hw := wrap_small (n := (i : Int) + 1) (by omega) (by omega)
    have hsn := dropsOk_snoc (s := s) hd
    have hbad : ¬ (hasId s.tabs d = true ∧ d ∉ e.drop.take i) → ¬ okA s e := fun hn h => hn (hsn.1 (dropsOk_take h.2.2.1 (i + 1))).2
    have f1 := fun H => find_at s.tabs d (by omega) H
    unfold raH
    (repeat (first | refine Run.adm rfl ?_ | refine Run.seq ?_ | (apply Run.opS rfl; (· (simp -implicitDefEqProofs [encZ, encE, hlt, hlt']; exact ⟨rfl, rfl⟩))) | (apply Run.condS; (· (simp -implicitDefEqProofs [encZ, encE, hlt, hlt']; exact rfl)))))
    refine Run.quietM prog_mixed (by kernel_rfl) [0, 1, 2] [(2, .ptr 0 0), (3, .ptr 1 0), (4, .ptr 2 0), (6, .int .i64 i), (46, .bool (!hasId s.tabs d))] (raH s e) (by rfl) (by decide) ?_ ?_
    · (repeat (first | refine execQ_E rfl ?_ | (apply execQ_S rfl; (· (simp -implicitDefEqProofs [encZ, encE, hlt, hlt', hd, hdi, encN]; exact ⟨rfl, rfl⟩)))))
      refine execQ_C rfl rfl rfl (f1 _) ?_
      (repeat (first | refine execQ_E rfl ?_ | (apply execQ_S rfl; (· (simp -implicitDefEqProofs; exact ⟨rfl, rfl⟩)))))
      cases hh : hasId s.tabs d with
      | true =>
        have := ne_of_hasId.2 hh
        have h' : ¬ findI s.tabs d < 0 := by omega
        simp [h', raH, encZ, encE]
      | false =>
        have h' : findI s.tabs d < 0 := by
          refine Int.not_le.1 fun h => ?_
          rw [ne_of_hasId.1 h] at hh; cases hh
        simp [h', raH, encZ, encE]
    cases hh : hasId s.tabs d with
    | false =>
      unfold raH
      (repeat (first | refine Run.adm rfl ?_ | refine Run.seq ?_ | (apply Run.opS rfl; (· (simp -implicitDefEqProofs; exact ⟨rfl, rfl⟩))) | (apply Run.condS; (· (simp -implicitDefEqProofs; exact rfl)))))
      exact ra_bad hm (hbad (fun h => by rw [hh] at h; cases h.1)) trivial (by simp) (by simp) (by simp)
    | true =>
    unfold raH
    (repeat (first | refine Run.adm rfl ?_ | refine Run.seq ?_ | (apply Run.opS rfl; (· (simp -implicitDefEqProofs; exact ⟨rfl, rfl⟩))) | (apply Run.condS; (· (simp -implicitDefEqProofs; exact rfl)))))
    refine Run.loopC [0, 1, 2] (fun (k : Nat) => ([(2, .ptr 0 0), (3, .ptr 1 0), (4, .ptr 2 0), (6, .int .i64 i), (7, .int .i64 k)], raH s e)) (fun k => k ≤ i ∧ d ∉ e.drop.take k) (fun k => i - k) 0 ⟨Nat.zero_le _, by simp⟩ (by rfl) (by decide) (by simp) (by simp [raH, encZ, encE]) ?_
    rintro k ⟨hk, hnk⟩ ih
    by_cases hki : k < i
    · have hki' : (k : Int) < i := by omega
      have hkl : k < e.drop.length := by omega
      have hkl' : (k : Int) < e.drop.length := by omega
      obtain ⟨x, hx, hxi, -, -⟩ := getL hkl
      have hwk := wrap_small (n := (k : Int) + 1) (by omega) (by omega)
      unfold raH
      (repeat (first | refine Run.adm rfl ?_ | refine Run.seq ?_ | (apply Run.opS rfl; (· (simp -implicitDefEqProofs [hki, hki']; exact ⟨rfl, rfl⟩))) | (apply Run.condS; (· (simp -implicitDefEqProofs [hki, hki']; exact rfl)))))
      refine Run.quietM prog_mixed (by kernel_rfl) [0, 1, 2] [(2, .ptr 0 0), (3, .ptr 1 0), (4, .ptr 2 0), (6, .int .i64 i), (7, .int .i64 k), (63, .bool (decide (x = d)))] (raH s e) (by rfl) (by decide) ?_ ?_
      · (repeat (first | refine execQ_E rfl ?_ | (apply execQ_S rfl; (· (simp -implicitDefEqProofs [encZ, encE, hlt, hlt', hd, hdi, hkl, hkl', hx, hxi, encN]; exact ⟨rfl, rfl⟩)))))
        simp [raH, encZ, encE]
      by_cases hxd : x = d
      · unfold raH
        (repeat (first | refine Run.adm rfl ?_ | refine Run.seq ?_ | (apply Run.opS rfl; (· (simp -implicitDefEqProofs [hxd]; exact ⟨rfl, rfl⟩))) | (apply Run.condS; (· (simp -implicitDefEqProofs [hxd]; exact rfl)))))
        refine ra_bad hm (hbad (fun h => h.2 ?_)) trivial (by simp) (by simp) (by simp)
        rw [← hxd]
        exact List.mem_iff_getElem?.2 ⟨k, by rw [List.getElem?_take, if_pos hki]; exact hx⟩
      · unfold raH
        (repeat (first | refine Run.adm rfl ?_ | refine Run.seq ?_ | (apply Run.opS rfl; (· (simp -implicitDefEqProofs [hxd]; exact ⟨rfl, rfl⟩))) | (apply Run.condS; (· (simp -implicitDefEqProofs [hxd]; exact rfl)))))
        refine Run.mv [0, 1, 2] _ _ (by rfl) (by decide) ?_ ?_ (ih (k + 1) ⟨by omega, ?_⟩ (by omega))
        · simp [hwk]
        · simp [raH, encZ, encE]
        · rw [take_snoc hx]
          simp only [List.mem_append, List.mem_singleton, not_or]
          exact ⟨hnk, fun h => hxd h.symm⟩
    · have : k = i := by omega
      subst this
      unfold raH
      (repeat (first | refine Run.adm rfl ?_ | refine Run.seq ?_ | (apply Run.opS rfl; (· (simp -implicitDefEqProofs; exact ⟨rfl, rfl⟩))) | (apply Run.condS; (· (simp -implicitDefEqProofs; exact rfl)))))
      refine Run.mv [0, 1, 2] _ _ (by rfl) (by decide) ?_ ?_ (ihO (k + 1) ⟨by omega, hsn.2 ⟨hok, hh, hnk⟩⟩ (by omega))
      · simp [hw]
      · simp [raH, encZ, encE]
  · have : i = e.drop.length := by omega
    subst this
    rw [List.take_length] at hok
    unfold raH
    (repeat (first | refine Run.adm rfl ?_ | refine Run.seq ?_ | (apply Run.opS rfl; (· (simp -implicitDefEqProofs [encE, encZ]; exact ⟨rfl, rfl⟩))) | (apply Run.condS; (· (simp -implicitDefEqProofs [encE, encZ]; exact rfl)))))
    refine Run.mv [0, 1, 2] _ _ (by rfl) (by decide) ?_ ?_ (hb hok)
    · simp
    · simp [raH, encZ, encE]
theorem rapply_at (s : St) (e : Ed) (hs : s.tabs.length ≤ 500000) (H : List O) : Tri Try.prog 19 [.agg (encZ s), .agg (encE e)] H (fun v H' => v = .tup [.agg (encZ (applyR s e).1), .int .i64 (applyR s e).2] ∧ H' = H) := (rapply_tri s e hs).any (fun v ρ h => by rw [h]; rfl) (fun ρ => by simp [V.renL, V.ren]) H

end Go.Proofs.Ytpipgcmiaccdkaa
