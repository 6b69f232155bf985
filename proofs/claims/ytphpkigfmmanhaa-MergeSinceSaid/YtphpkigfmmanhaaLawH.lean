/-
  Layer 11, part LawH: the law MergeSince.
-/
import Derived.Test.YtphpkigfmmanhaaLawG
namespace Go.Proofs.Ytphpkigfmmanhaa
open Sx Go
set_option maxRecDepth 100000
set_option linter.unusedSimpArgs false
set_option linter.unusedVariables false
set_option linter.unnecessarySimpa false
attribute [local simp] guardB isCall opStep Opd.ev put readAt aBin aUn args0 V.celled V.ones V.one V.cells putAt bounds bound1 elemsOf srcOf appendV fillAt fillEl V.pures V.pure unwind evs ARes.ev mkRes V.ren V.renL O.ren eqCells eq1 aEq aMM hasTy hasTyN okTy mmGo Known HLe OLe VsLe.refl VLe.refl Stay VsLe V.frz V.frzL O.frz fr clearV rn KnownR Objs OLeO ObjsE nm back setAll ren_ite take_map_len List.take_of_length_le
attribute [local simp ↓] upd_app tl_cons tl_nil
attribute [local simp] encE_ren encE_ones encE_len encE_take

def leB (a b : Bs) : Bool := Op.bytesLess a b || decide (a = b)
def outE (x : En) : List (Bs × Bs) := if x.gone = true then [] else [(x.key, x.val)]
/-- what was changed, put upon what was there -/
def nowGo : List (Bs × Bs) → List En → List (Bs × Bs)
  | [], [] => []
  | p :: w, [] => p :: w
  | [], x :: s => outE x ++ nowGo [] s
  | p :: w, x :: s => if leB x.key p.1 = true then outE x ++ nowGo (if p.1 = x.key then w else p :: w) s else p :: nowGo w (x :: s)
termination_by w s => w.length + s.length
decreasing_by
  all_goals simp only [List.length_cons, List.length_nil]
  all_goals (try split)
  all_goals (try simp only [List.length_cons])
  all_goals omega
theorem now_nil (w : List (Bs × Bs)) : nowGo w [] = w := by cases w <;> rw [nowGo]

theorem grp_mem {β : Type} (f : List En → List β) {l : List En} (hl : RiseE l) : ∀ x ∈ grpGo f l, ∃ g : List En, (∀ e ∈ g, e ∈ l) ∧ x ∈ f g := by
  refine grp_ind (Q := fun l => ∀ x ∈ grpGo f l, ∃ g : List En, (∀ e ∈ g, e ∈ l) ∧ x ∈ f g) (by intro x hx; rw [grpGo] at hx; simp at hx) ?_ l.length l (Nat.le_refl _) hl
  intro key g rest hne hg hr _ ih x hx
  rw [grp_app f key hne hg fun e he => (hr e he).1] at hx
  rcases List.mem_append.1 hx with hx | hx
  · exact ⟨g, fun e he => by simp [he], hx⟩
  · obtain ⟨g', h1, h2⟩ := ih x hx
    exact ⟨g', fun e he => by simp [h1 e he], h2⟩
theorem visG_mem {g : List En} {n : Int} {p : Bs × Bs} (h : p ∈ visG g n) : ∃ e ∈ g, p = (e.key, e.val) := by
  unfold visG at h
  split at h
  · rename_i e he
    split at h
    · simp at h
    · simp at h; exact ⟨e, List.mem_of_find?_eq_some he, h⟩
  · simp at h
theorem sinGl_mem {g : List En} {n : Int} {e : En} (h : e ∈ sinGl g n) : e ∈ g := by
  cases g with
  | nil => simp [sinGl] at h
  | cons x r =>
    simp only [sinGl, sinG] at h
    split at h
    · simp at h; subst h; simp
    · simp at h

theorem now_step (x : En) (r rest : List En) (n : Int) (hm : mayE x = true) (hg : ∀ e ∈ x :: r, e.key = x.key) {W : List (Bs × Bs)} {S : List En} (hW : ∀ p ∈ W, Op.bytesLess x.key p.1 = true) (hS : ∀ e ∈ S, Op.bytesLess x.key e.key = true) :
    nowGo (visG (x :: r) n ++ W) (sinGl (x :: r) n ++ S) = visG (x :: r) 1099511627776 ++ nowGo W S := by
  have hx := (mayE_spec hm).2.2.2.2.2
  have hv : visG (x :: r) 1099511627776 = outE x := by
    have : decide (x.seq ≤ 1099511627776) = true := by rw [decide_eq_true_eq]; omega
    unfold visG
    rw [List.find?_cons, this]; rfl
  rw [hv]
  by_cases hn : n < x.seq
  · have hs : sinGl (x :: r) n = [x] := by simp [sinGl, sinG, hn]
    have hnowW : nowGo W (x :: S) = outE x ++ nowGo W S := by
      cases W with
      | nil => rw [nowGo]
      | cons p W =>
        have h1 := hW p (by simp)
        have h2 : ¬ p.1 = x.key := fun h => bless_ne h1 h.symm
        rw [nowGo, if_pos (by simp [leB, h1]), if_neg h2]
    rw [hs]
    by_cases hne : visG (x :: r) n = []
    · rw [hne]; exact hnowW
    · obtain ⟨p, hp⟩ : ∃ p, visG (x :: r) n = [p] := by
        have h1 := visG_len (x :: r) n
        cases hv : visG (x :: r) n with
        | nil => exact absurd hv hne
        | cons p q =>
          rw [hv] at h1
          cases q with
          | nil => exact ⟨p, rfl⟩
          | cons => simp at h1
      obtain ⟨e, he, hpe⟩ := visG_mem (g := x :: r) (n := n) (p := p) (by rw [hp]; simp)
      have hk : p.1 = x.key := by rw [hpe]; exact hg e he
      rw [hp]
      show nowGo (p :: W) (x :: S) = _
      rw [nowGo, if_pos (by simp [leB, hk]), if_pos hk]
  · have hs : sinGl (x :: r) n = [] := by simp [sinGl, sinG, hn]
    have hv2 : visG (x :: r) n = outE x := by
      have : decide (x.seq ≤ n) = true := by rw [decide_eq_true_eq]; omega
      unfold visG
      rw [List.find?_cons, this]; rfl
    rw [hs, hv2, List.nil_append]
    unfold outE
    cases hgo : x.gone with
    | true => rfl
    | false =>
      show nowGo ((x.key, x.val) :: W) S = (x.key, x.val) :: nowGo W S
      cases S with
      | nil => rw [nowGo, now_nil]
      | cons y S =>
        have h1 := hS y (by simp)
        have h2 : leB y.key x.key = false := by
          unfold leB
          rw [Bool.or_eq_false_iff]
          refine ⟨?_, by simpa using fun h => bless_ne h1 h.symm⟩
          cases hb : Op.bytesLess y.key x.key with
          | false => rfl
          | true => exact absurd rfl (bless_ne (bless_trans h1 hb))
        rw [nowGo, if_neg (by simp [h2])]

theorem now_all {m : List En} (hc : checkE m = true) (n : Int) : nowGo (visM m n) (sinM m n) = visM m 1099511627776 := by
  obtain ⟨h1, h2, h3⟩ := checkE_iff.1 hc
  rw [visM, if_pos hc, sinM, if_pos hc, visM, if_pos hc]
  refine grp_ind (Q := fun l => (∀ y ∈ l, mayE y = true) → nowGo (grpGo (visG · n) l) (grpGo (sinGl · n) l) = grpGo (visG · 1099511627776) l) (fun _ => by simp [grpGo, nowGo]) ?_ m.length m (Nat.le_refl _) h2 h3
  intro key g rest hne hg hr hrise ih hm
  have hrr : RiseE rest := hrise.sublist (List.sublist_append_right _ _)
  have hB : ∀ e ∈ rest, e.key ≠ key := fun e he => (hr e he).1
  rw [grp_app (visG · n) key hne hg hB, grp_app (sinGl · n) key hne hg hB, grp_app (visG · 1099511627776) key hne hg hB, ← ih fun y hy => hm y (by simp [hy])]
  cases g with
  | nil => exact absurd rfl hne
  | cons x r =>
    have hx : x.key = key := hg x (by simp)
    refine now_step x r rest n (hm x (by simp)) (fun e he => by rw [hg e he, hx]) (fun p hp => ?_) (fun e he => ?_)
    · obtain ⟨g', hg', hp'⟩ := grp_mem (visG · n) hrr p hp
      obtain ⟨e, he, hpe⟩ := visG_mem hp'
      rw [hpe, hx]; exact (hr e (hg' e he)).2
    · obtain ⟨g', hg', he'⟩ := grp_mem (sinGl · n) hrr e he
      rw [hx]; exact (hr e (hg' e (sinGl_mem he'))).2

/-- is it a changed one's turn? -/
def turnB (W : List (Bs × Bs)) (S : List En) (i k : Nat) : Bool := match S[k]? with
  | none => false
  | some x => match W[i]? with
    | none => true
    | some p => leB x.key p.1
/-- is the other one of its key? -/
def eqAt (W : List (Bs × Bs)) (i : Nat) (x : En) : Bool := match W[i]? with
  | none => false
  | some p => decide (p.1 = x.key)
theorem now_turn {W : List (Bs × Bs)} {S : List En} {i k : Nat} {x : En} (hx : S[k]? = some x) (hd : S.drop k = x :: S.drop (k + 1)) (ht : turnB W S i k = true) (hi : i ≤ W.length) :
    nowGo (W.drop i) (S.drop k) = outE x ++ nowGo (W.drop (if eqAt W i x = true then i + 1 else i)) (S.drop (k + 1)) := by
  rw [hd]
  by_cases hlt : i < W.length
  · obtain ⟨p, hp, -, hpd, -⟩ := getL hlt
    have h1 : leB x.key p.1 = true := by simpa [turnB, hx, hp] using ht
    rw [hpd, nowGo, if_pos h1]
    simp only [eqAt, hp, decide_eq_true_eq]
    split
    · rfl
    · rw [hpd]
  · have hn : W[i]? = none := by rw [List.getElem?_eq_none_iff]; omega
    have hd0 : W.drop i = [] := List.drop_eq_nil_of_le (by omega)
    have he : eqAt W i x = false := by simp [eqAt, hn]
    rw [hd0, nowGo, he]; simp [hd0]
theorem now_other {W : List (Bs × Bs)} {S : List En} {i k : Nat} {p : Bs × Bs} (hp : W[i]? = some p) (hpd : W.drop i = p :: W.drop (i + 1)) (ht : turnB W S i k = false) (hk : k ≤ S.length) :
    nowGo (W.drop i) (S.drop k) = p :: nowGo (W.drop (i + 1)) (S.drop k) := by
  rw [hpd]
  by_cases hlt : k < S.length
  · obtain ⟨x, hx, -, hd, -⟩ := getL hlt
    have h1 : leB x.key p.1 = false := by simpa [turnB, hx, hp] using ht
    rw [hd, nowGo, if_neg (by simp [h1])]
  · have hd0 : S.drop k = [] := List.drop_eq_nil_of_le (by omega)
    rw [hd0, nowGo, now_nil]

theorem since_law (l : List En) (n : Int) : Tri Try.prog 9 [.vs (l.map encE) 4, .int .i64 n] [] (fun v H => v = .bool true ∧ H = []) := by
  refine Tri.of_run' Try.func9 rfl c9_ok (by simp [Try.ntmps9]) ?_
  have hend : ∀ {k t h}, AtEnd k → t 4 = .bool true → Run ⟨Try.prog, 9, Try.f9.ntmps, [], fun v H => v = .bool true ∧ H = []⟩ ⟨k, t, h⟩ := by
    intro k t h hk h6
    refine Run.mv [] [(4, .bool true)] [] (by rfl) (by decide) (by simp [h6]) (by simp) ?_
    refine Run.ret0 rfl Try.func9 r9_ok hk (by simp [r9]; rfl) ?_ (by simp)
    simp
  (repeat (first | refine Run.seq ?_ | refine Run.reg ?_ | refine Run.skip ?_ | refine Run.block ?_ | refine Run.endB ?_ | refine Run.opE rfl ?_ | (apply Run.op0 rfl; (· (simp -implicitDefEqProofs; exact ⟨rfl, rfl⟩))) | (apply Run.opA rfl; (· (simp -implicitDefEqProofs; done)); (· (simp -implicitDefEqProofs; exact ⟨rfl, rfl⟩))) | (apply Run.opN rfl; (· (simp -implicitDefEqProofs; done))) | (refine Run.condT ?_ ?_; (· (simp -implicitDefEqProofs; done))) | (refine Run.condF ?_ ?_; (· (simp -implicitDefEqProofs; done))) | refine Run.exit rfl ?_))
  refine Run.opC rfl rfl rfl (light_at l _) ?_
  rintro v h' ⟨rfl, rfl⟩
  cases la : lightM l with
  | false =>
    (repeat (first | refine Run.seq ?_ | refine Run.reg ?_ | refine Run.skip ?_ | refine Run.block ?_ | refine Run.endB ?_ | refine Run.opE rfl ?_ | (apply Run.op0 rfl; (· (simp -implicitDefEqProofs; exact ⟨rfl, rfl⟩))) | (apply Run.opA rfl; (· (simp -implicitDefEqProofs; done)); (· (simp -implicitDefEqProofs; exact ⟨rfl, rfl⟩))) | (apply Run.opN rfl; (· (simp -implicitDefEqProofs; done))) | (refine Run.condT ?_ ?_; (· (simp -implicitDefEqProofs; done))) | (refine Run.condF ?_ ?_; (· (simp -implicitDefEqProofs; done))) | refine Run.exit rfl ?_))
    refine Run.opC rfl rfl rfl (awake_at _) ?_
    rintro v h' ⟨rfl, rfl⟩
    (repeat (first | refine Run.seq ?_ | refine Run.reg ?_ | refine Run.skip ?_ | refine Run.block ?_ | refine Run.endB ?_ | refine Run.opE rfl ?_ | (apply Run.op0 rfl; (· (simp -implicitDefEqProofs; exact ⟨rfl, rfl⟩))) | (apply Run.opA rfl; (· (simp -implicitDefEqProofs; done)); (· (simp -implicitDefEqProofs; exact ⟨rfl, rfl⟩))) | (apply Run.opN rfl; (· (simp -implicitDefEqProofs; done))) | (refine Run.condT ?_ ?_; (· (simp -implicitDefEqProofs; done))) | (refine Run.condF ?_ ?_; (· (simp -implicitDefEqProofs; done))) | refine Run.exit rfl ?_))
    exact hend trivial (by simp)
  | true =>
  have ha := lightM_len la
  have hm := madeM_len l
  have hck := made_check (l := l) (by omega)
  (repeat (first | refine Run.seq ?_ | refine Run.reg ?_ | refine Run.skip ?_ | refine Run.block ?_ | refine Run.endB ?_ | refine Run.opE rfl ?_ | (apply Run.op0 rfl; (· (simp -implicitDefEqProofs; exact ⟨rfl, rfl⟩))) | (apply Run.opA rfl; (· (simp -implicitDefEqProofs; done)); (· (simp -implicitDefEqProofs; exact ⟨rfl, rfl⟩))) | (apply Run.opN rfl; (· (simp -implicitDefEqProofs; done))) | (refine Run.condT ?_ ?_; (· (simp -implicitDefEqProofs; done))) | (refine Run.condF ?_ ?_; (· (simp -implicitDefEqProofs; done))) | refine Run.exit rfl ?_))
  refine Run.opC rfl rfl rfl (made_at l (by omega) _) ?_
  rintro v h' ⟨rfl, rfl⟩
  generalize madeM l = m at *
  (repeat (first | refine Run.seq ?_ | refine Run.reg ?_ | refine Run.skip ?_ | refine Run.block ?_ | refine Run.endB ?_ | refine Run.opE rfl ?_ | (apply Run.op0 rfl; (· (simp -implicitDefEqProofs; exact ⟨rfl, rfl⟩))) | (apply Run.opA rfl; (· (simp -implicitDefEqProofs; done)); (· (simp -implicitDefEqProofs; exact ⟨rfl, rfl⟩))) | (apply Run.opN rfl; (· (simp -implicitDefEqProofs; done))) | (refine Run.condT ?_ ?_; (· (simp -implicitDefEqProofs; done))) | (refine Run.condF ?_ ?_; (· (simp -implicitDefEqProofs; done))) | refine Run.exit rfl ?_))
  refine Run.opC rfl rfl rfl (vis_at m n _) ?_
  rintro v h' ⟨rfl, rfl⟩
  (repeat (first | refine Run.seq ?_ | refine Run.reg ?_ | refine Run.skip ?_ | refine Run.block ?_ | refine Run.endB ?_ | refine Run.opE rfl ?_ | (apply Run.op0 rfl; (· (simp -implicitDefEqProofs; exact ⟨rfl, rfl⟩))) | (apply Run.opA rfl; (· (simp -implicitDefEqProofs; done)); (· (simp -implicitDefEqProofs; exact ⟨rfl, rfl⟩))) | (apply Run.opN rfl; (· (simp -implicitDefEqProofs; done))) | (refine Run.condT ?_ ?_; (· (simp -implicitDefEqProofs; done))) | (refine Run.condF ?_ ?_; (· (simp -implicitDefEqProofs; done))) | refine Run.exit rfl ?_))
  refine Run.opC rfl rfl rfl (sin_at m n _) ?_
  rintro v h' ⟨rfl, rfl⟩
  have hall := now_all hck n
  have hWl : (visM m n).length ≤ 60 := by
    rw [vis_eq, visR, if_pos hck]
    have := fmap_len (visF m n) m.length; omega
  have hSl : (sinM m n).length ≤ 60 := by
    rw [sin_eq, sinR, if_pos hck]
    have := fmap_len (sinF m n) m.length; omega
  have hvl := visM_len (l := m) 1099511627776 (by omega)
  obtain ⟨F, hF⟩ : ∃ F, visM m 1099511627776 = F := ⟨_, rfl⟩
  have hvat := vis_at m 1099511627776
  rw [hF] at hall hvl hvat
  generalize visM m n = W at *
  generalize sinM m n = S at *
  (repeat (first | refine Run.seq ?_ | refine Run.reg ?_ | refine Run.skip ?_ | refine Run.block ?_ | refine Run.endB ?_ | refine Run.opE rfl ?_ | (apply Run.op0 rfl; (· (simp -implicitDefEqProofs; exact ⟨rfl, rfl⟩))) | (apply Run.opA rfl; (· (simp -implicitDefEqProofs; done)); (· (simp -implicitDefEqProofs; exact ⟨rfl, rfl⟩))) | (apply Run.opN rfl; (· (simp -implicitDefEqProofs; done))) | (refine Run.condT ?_ ?_; (· (simp -implicitDefEqProofs; done))) | (refine Run.condF ?_ ?_; (· (simp -implicitDefEqProofs; done))) | refine Run.exit rfl ?_))
  refine Run.nilA 8 2 (by simp) ?_
  (repeat (first | refine Run.seq ?_ | refine Run.reg ?_ | refine Run.skip ?_ | refine Run.block ?_ | refine Run.endB ?_ | refine Run.opE rfl ?_ | (apply Run.op0 rfl; (· (simp -implicitDefEqProofs; exact ⟨rfl, rfl⟩))) | (apply Run.opA rfl; (· (simp -implicitDefEqProofs; done)); (· (simp -implicitDefEqProofs; exact ⟨rfl, rfl⟩))) | (apply Run.opN rfl; (· (simp -implicitDefEqProofs; done))) | (refine Run.condT ?_ ?_; (· (simp -implicitDefEqProofs; done))) | (refine Run.condF ?_ ?_; (· (simp -implicitDefEqProofs; done))) | refine Run.exit rfl ?_))
  refine Run.loopC [0] (fun (a : Nat × Nat × List (Bs × Bs)) => ([(5, .vs (m.map encE) 4), (6, .vs (W.map encP) 2), (7, .vs (S.map encE) 4), (8, .sl 0 0 a.2.2.length 2 none), (9, .int .i64 a.2.1), (10, .int .i64 a.1)], [.arr (a.2.2.map encP) 2]))
    (fun a => a.1 ≤ W.length ∧ a.2.1 ≤ S.length ∧ a.2.2.length ≤ a.1 + a.2.1 ∧ F = a.2.2 ++ nowGo (W.drop a.1) (S.drop a.2.1)) (fun a => (W.length - a.1) + (S.length - a.2.1)) (0, 0, []) (by simp [hall]) (by rfl) (by decide) (by simp) (by simp) ?_
  rintro ⟨i, k, o⟩ ⟨hi, hk, hol, hgo⟩ ih
  simp only at hi hk hol hgo ih ⊢
  have hbb : (o.length + 1) * 32 ≤ 70368744177664 := by omega
  have hwi := wrap_small (n := (i : Int) + 1) (by omega) (by omega)
  have hwk := wrap_small (n := (k : Int) + 1) (by omega) (by omega)
  by_cases hdone : i < W.length ∨ k < S.length
  · refine Run.seq ?_
    refine Run.join [(5, .vs (m.map encE) 4), (6, .vs (W.map encP) 2), (7, .vs (S.map encE) 4), (8, .sl 0 0 o.length 2 none), (9, .int .i64 k), (10, .int .i64 i), (32, .bool true)] [.arr (o.map encP) 2] ?_ ?_
    rotate_left
    · intro kk hkk
      by_cases h1 : i < W.length
      · (repeat (first | refine Run.seq ?_ | refine Run.reg ?_ | refine Run.skip ?_ | refine Run.block ?_ | refine Run.endB ?_ | refine Run.opE rfl ?_ | (apply Run.op0 rfl; (· (simp -implicitDefEqProofs [h1]; exact ⟨rfl, rfl⟩))) | (apply Run.opA rfl; (· (simp -implicitDefEqProofs [h1]; done)); (· (simp -implicitDefEqProofs [h1]; exact ⟨rfl, rfl⟩))) | (apply Run.opN rfl; (· (simp -implicitDefEqProofs [h1]; done))) | (refine Run.condT ?_ ?_; (· (simp -implicitDefEqProofs [h1]; done))) | (refine Run.condF ?_ ?_; (· (simp -implicitDefEqProofs [h1]; done))) | refine Run.exit rfl ?_))
        refine Run.mv [0] _ _ (by rfl) (by decide) (by simp) (by simp) hkk
      · have h2 : k < S.length := by omega
        (repeat (first | refine Run.seq ?_ | refine Run.reg ?_ | refine Run.skip ?_ | refine Run.block ?_ | refine Run.endB ?_ | refine Run.opE rfl ?_ | (apply Run.op0 rfl; (· (simp -implicitDefEqProofs [h1, h2]; exact ⟨rfl, rfl⟩))) | (apply Run.opA rfl; (· (simp -implicitDefEqProofs [h1, h2]; done)); (· (simp -implicitDefEqProofs [h1, h2]; exact ⟨rfl, rfl⟩))) | (apply Run.opN rfl; (· (simp -implicitDefEqProofs [h1, h2]; done))) | (refine Run.condT ?_ ?_; (· (simp -implicitDefEqProofs [h1, h2]; done))) | (refine Run.condF ?_ ?_; (· (simp -implicitDefEqProofs [h1, h2]; done))) | refine Run.exit rfl ?_))
        refine Run.mv [0] _ _ (by rfl) (by decide) (by simp) (by simp) hkk
    (repeat (first | refine Run.seq ?_ | refine Run.reg ?_ | refine Run.skip ?_ | refine Run.block ?_ | refine Run.endB ?_ | refine Run.opE rfl ?_ | (apply Run.op0 rfl; (· (simp -implicitDefEqProofs; exact ⟨rfl, rfl⟩))) | (apply Run.opA rfl; (· (simp -implicitDefEqProofs; done)); (· (simp -implicitDefEqProofs; exact ⟨rfl, rfl⟩))) | (apply Run.opN rfl; (· (simp -implicitDefEqProofs; done))) | (refine Run.condT ?_ ?_; (· (simp -implicitDefEqProofs; done))) | (refine Run.condF ?_ ?_; (· (simp -implicitDefEqProofs; done))) | refine Run.exit rfl ?_))
    refine Run.quietM prog_mixed (by kernel_rfl) [0] [(5, .vs (m.map encE) 4), (6, .vs (W.map encP) 2), (7, .vs (S.map encE) 4), (8, .sl 0 0 o.length 2 none), (9, .int .i64 k), (10, .int .i64 i), (55, .bool (turnB W S i k))] [.arr (o.map encP) 2] (by rfl) (by decide) ?_ ?_
    · by_cases h2 : k < S.length
      · obtain ⟨x, hx, hxi, -, -⟩ := getL h2
        by_cases h1 : i < W.length
        · obtain ⟨p, hp, hpi, -, -⟩ := getL h1
          have hne : ¬ (i : Int) = W.length := by omega
          have hne' : ¬ i = W.length := by omega
          (repeat (first | refine execQ_E rfl ?_ | (apply execQ_0 rfl; (· rfl); (· (simp -implicitDefEqProofs [h1, h2, hne, hne', hx, hxi, hp, hpi, encE, encP]; exact ⟨rfl, rfl⟩))) | (apply execQ_A rfl; (· (simp -implicitDefEqProofs [h1, h2, hne, hne', hx, hxi, hp, hpi, encE, encP]; done)); (· rfl); (· (simp -implicitDefEqProofs [h1, h2, hne, hne', hx, hxi, hp, hpi, encE, encP]; exact ⟨rfl, rfl⟩))) | (apply execQ_N rfl; (· (simp -implicitDefEqProofs [h1, h2, hne, hne', hx, hxi, hp, hpi, encE, encP]; done)))))
          simp [turnB, hx, hp, leB]
        · have heq : i = W.length := by omega
          have hn : W[W.length]? = none := by simp
          subst heq
          (repeat (first | refine execQ_E rfl ?_ | (apply execQ_0 rfl; (· rfl); (· (simp -implicitDefEqProofs [h2, hx, hxi, encE]; exact ⟨rfl, rfl⟩))) | (apply execQ_A rfl; (· (simp -implicitDefEqProofs [h2, hx, hxi, encE]; done)); (· rfl); (· (simp -implicitDefEqProofs [h2, hx, hxi, encE]; exact ⟨rfl, rfl⟩))) | (apply execQ_N rfl; (· (simp -implicitDefEqProofs [h2, hx, hxi, encE]; done)))))
          simp [turnB, hx]
      · have hn : S[k]? = none := by rw [List.getElem?_eq_none_iff]; omega
        (repeat (first | refine execQ_E rfl ?_ | (apply execQ_0 rfl; (· rfl); (· (simp -implicitDefEqProofs [h2]; exact ⟨rfl, rfl⟩))) | (apply execQ_A rfl; (· (simp -implicitDefEqProofs [h2]; done)); (· rfl); (· (simp -implicitDefEqProofs [h2]; exact ⟨rfl, rfl⟩))) | (apply execQ_N rfl; (· (simp -implicitDefEqProofs [h2]; done)))))
        simp [turnB, hn]
    cases htb : turnB W S i k with
    | true =>
      have h2 : k < S.length := by
        rcases Nat.lt_or_ge k S.length with h | h
        · exact h
        · have hn : S[k]? = none := by rw [List.getElem?_eq_none_iff]; omega
          simp [turnB, hn] at htb
      obtain ⟨x, hx, hxi, hxd, -⟩ := getL h2
      rw [now_turn hx hxd htb hi] at hgo
      (repeat (first | refine Run.seq ?_ | refine Run.reg ?_ | refine Run.skip ?_ | refine Run.block ?_ | refine Run.endB ?_ | refine Run.opE rfl ?_ | (apply Run.op0 rfl; (· (simp -implicitDefEqProofs; exact ⟨rfl, rfl⟩))) | (apply Run.opA rfl; (· (simp -implicitDefEqProofs; done)); (· (simp -implicitDefEqProofs; exact ⟨rfl, rfl⟩))) | (apply Run.opN rfl; (· (simp -implicitDefEqProofs; done))) | (refine Run.condT ?_ ?_; (· (simp -implicitDefEqProofs; done))) | (refine Run.condF ?_ ?_; (· (simp -implicitDefEqProofs; done))) | refine Run.exit rfl ?_))
      refine Run.quietM prog_mixed (by kernel_rfl) [0] [(5, .vs (m.map encE) 4), (6, .vs (W.map encP) 2), (7, .vs (S.map encE) 4), (8, .sl 0 0 o.length 2 none), (9, .int .i64 k), (10, .int .i64 i), (72, .bool (eqAt W i x))] [.arr (o.map encP) 2] (by rfl) (by decide) ?_ ?_
      · by_cases h1 : i < W.length
        · obtain ⟨p, hp, hpi, -, -⟩ := getL h1
          (repeat (first | refine execQ_E rfl ?_ | (apply execQ_0 rfl; (· rfl); (· (simp -implicitDefEqProofs [h1, h2, hx, hxi, hp, hpi, encE, encP]; exact ⟨rfl, rfl⟩))) | (apply execQ_A rfl; (· (simp -implicitDefEqProofs [h1, h2, hx, hxi, hp, hpi, encE, encP]; done)); (· rfl); (· (simp -implicitDefEqProofs [h1, h2, hx, hxi, hp, hpi, encE, encP]; exact ⟨rfl, rfl⟩))) | (apply execQ_N rfl; (· (simp -implicitDefEqProofs [h1, h2, hx, hxi, hp, hpi, encE, encP]; done)))))
          simp [eqAt, hp]
        · have hn : W[i]? = none := by rw [List.getElem?_eq_none_iff]; omega
          (repeat (first | refine execQ_E rfl ?_ | (apply execQ_0 rfl; (· rfl); (· (simp -implicitDefEqProofs [h1]; exact ⟨rfl, rfl⟩))) | (apply execQ_A rfl; (· (simp -implicitDefEqProofs [h1]; done)); (· rfl); (· (simp -implicitDefEqProofs [h1]; exact ⟨rfl, rfl⟩))) | (apply execQ_N rfl; (· (simp -implicitDefEqProofs [h1]; done)))))
          simp [eqAt, hn]
      obtain ⟨i', hi'⟩ : ∃ i', i' = if eqAt W i x = true then i + 1 else i := ⟨_, rfl⟩
      have hi2 : i' ≤ W.length ∧ i ≤ i' := by
        rw [hi']
        by_cases h1 : i < W.length
        · split <;> omega
        · have hn : W[i]? = none := by rw [List.getElem?_eq_none_iff]; omega
          have : eqAt W i x = false := by simp [eqAt, hn]
          rw [this]; simp; omega
      rw [← hi'] at hgo
      refine Run.join [(5, .vs (m.map encE) 4), (6, .vs (W.map encP) 2), (7, .vs (S.map encE) 4), (8, .sl 0 0 o.length 2 none), (9, .int .i64 k), (10, .int .i64 i')] [.arr (o.map encP) 2] ?_ ?_
      rotate_left
      · intro kk hkk
        cases he : eqAt W i x with
        | true =>
          rw [he, if_pos rfl] at hi'
          (repeat (first | refine Run.seq ?_ | refine Run.reg ?_ | refine Run.skip ?_ | refine Run.block ?_ | refine Run.endB ?_ | refine Run.opE rfl ?_ | (apply Run.op0 rfl; (· (simp -implicitDefEqProofs; exact ⟨rfl, rfl⟩))) | (apply Run.opA rfl; (· (simp -implicitDefEqProofs; done)); (· (simp -implicitDefEqProofs; exact ⟨rfl, rfl⟩))) | (apply Run.opN rfl; (· (simp -implicitDefEqProofs; done))) | (refine Run.condT ?_ ?_; (· (simp -implicitDefEqProofs; done))) | (refine Run.condF ?_ ?_; (· (simp -implicitDefEqProofs; done))) | refine Run.exit rfl ?_))
          refine Run.mv [0] _ _ (by rfl) (by decide) (by simp [hwi, hi']) (by simp) hkk
        | false =>
          rw [he] at hi'
          simp only [Bool.false_eq_true, if_false] at hi'
          (repeat (first | refine Run.seq ?_ | refine Run.reg ?_ | refine Run.skip ?_ | refine Run.block ?_ | refine Run.endB ?_ | refine Run.opE rfl ?_ | (apply Run.op0 rfl; (· (simp -implicitDefEqProofs; exact ⟨rfl, rfl⟩))) | (apply Run.opA rfl; (· (simp -implicitDefEqProofs; done)); (· (simp -implicitDefEqProofs; exact ⟨rfl, rfl⟩))) | (apply Run.opN rfl; (· (simp -implicitDefEqProofs; done))) | (refine Run.condT ?_ ?_; (· (simp -implicitDefEqProofs; done))) | (refine Run.condF ?_ ?_; (· (simp -implicitDefEqProofs; done))) | refine Run.exit rfl ?_))
          refine Run.mv [0] _ _ (by rfl) (by decide) (by simp [hi']) (by simp) hkk
      cases hg : x.gone with
      | true =>
        have ho : outE x = [] := by simp [outE, hg]
        rw [ho, List.nil_append] at hgo
        (repeat (first | refine Run.seq ?_ | refine Run.reg ?_ | refine Run.skip ?_ | refine Run.block ?_ | refine Run.endB ?_ | refine Run.opE rfl ?_ | (apply Run.op0 rfl; (· (simp -implicitDefEqProofs [h2, hx, hxi, encE, hg]; exact ⟨rfl, rfl⟩))) | (apply Run.opA rfl; (· (simp -implicitDefEqProofs [h2, hx, hxi, encE, hg]; done)); (· (simp -implicitDefEqProofs [h2, hx, hxi, encE, hg]; exact ⟨rfl, rfl⟩))) | (apply Run.opN rfl; (· (simp -implicitDefEqProofs [h2, hx, hxi, encE, hg]; done))) | (refine Run.condT ?_ ?_; (· (simp -implicitDefEqProofs [h2, hx, hxi, encE, hg]; done))) | (refine Run.condF ?_ ?_; (· (simp -implicitDefEqProofs [h2, hx, hxi, encE, hg]; done))) | refine Run.exit rfl ?_))
        refine Run.mv [0] _ _ (by rfl) (by decide) (by simp -implicitDefEqProofs [hwk]) (by simp -implicitDefEqProofs [hwk]) (ih ((i', k + 1, o)) ?_ ?_)
        · exact ⟨hi2.1, by simp only; omega, by simp only; omega, hgo⟩
        · simp only; omega
      | false =>
        have ho : outE x = [(x.key, x.val)] := by simp [outE, hg]
        rw [ho] at hgo
        (repeat (first | refine Run.seq ?_ | refine Run.reg ?_ | refine Run.skip ?_ | refine Run.block ?_ | refine Run.endB ?_ | refine Run.opE rfl ?_ | (apply Run.op0 rfl; (· (simp -implicitDefEqProofs [h2, hx, hxi, encE, hg]; exact ⟨rfl, rfl⟩))) | (apply Run.opA rfl; (· (simp -implicitDefEqProofs [h2, hx, hxi, encE, hg]; done)); (· (simp -implicitDefEqProofs [h2, hx, hxi, encE, hg]; exact ⟨rfl, rfl⟩))) | (apply Run.opN rfl; (· (simp -implicitDefEqProofs [h2, hx, hxi, encE, hg]; done))) | (refine Run.condT ?_ ?_; (· (simp -implicitDefEqProofs [h2, hx, hxi, encE, hg]; done))) | (refine Run.condF ?_ ?_; (· (simp -implicitDefEqProofs [h2, hx, hxi, encE, hg]; done))) | refine Run.exit rfl ?_))
        refine Run.drawn prog_mixed ?_
        show RunD _ c9d2 [0, 1, 2, 3, 4, 5, 6, 7, 8, 9, 10, 11, 12, 13, 14] [] _ _ _
        refine RunD.flow [0, 1, 2, 3, 4, 5, 6, 7, 8, 9, 10, 11] (by kernel_rfl) (by decide +kernel) (by decide +kernel) (by decide) trivial ?_; (repeat (first | refine execQ_E rfl ?_ | (apply execQ_0 rfl; (· rfl); (· (simp -implicitDefEqProofs [h2, hx, hxi, encE]; exact ⟨rfl, rfl⟩))) | (apply execQ_A rfl; (· (simp -implicitDefEqProofs [h2, hx, hxi, encE]; done)); (· rfl); (· (simp -implicitDefEqProofs [h2, hx, hxi, encE]; exact ⟨rfl, rfl⟩))) | (apply execQ_N rfl; (· (simp -implicitDefEqProofs [h2, hx, hxi, encE]; done))))); intro hpo
        refine RunD.alt1 12 (by kernel_rfl) (by kernel_rfl) hpo ?_
        (first | (apply AStep.o0 rfl; (· (simp -implicitDefEqProofs; exact ⟨rfl, rfl⟩))) | (apply AStep.A rfl; (· (simp -implicitDefEqProofs; done)); (· (simp -implicitDefEqProofs; exact ⟨rfl, rfl⟩))) | (apply AStep.N rfl; (· (simp -implicitDefEqProofs; done))))
        refine RunD.alt1 13 (by kernel_rfl) (by kernel_rfl) (by
          show PendOk _ c9d2 _ _ [0]
          (repeat (first | exact PendOk.nil | (refine PendOk.op rfl rfl rfl ?_ ?_; (· (simp -implicitDefEqProofs; done))) | (refine PendOk.op rfl rfl ?_ ?_ ?_; (· (simp -implicitDefEqProofs; done)); (· (simp -implicitDefEqProofs; done))) | (refine PendOk.skip rfl rfl ?_ ?_; (· (simp -implicitDefEqProofs; done)))))) ?_
        (first | (apply AStep.o0 rfl; (· (simp -implicitDefEqProofs [hbb]; exact ⟨rfl, rfl⟩))) | (apply AStep.A rfl; (· (simp -implicitDefEqProofs [hbb]; done)); (· (simp -implicitDefEqProofs [hbb]; exact ⟨rfl, rfl⟩))) | (apply AStep.N rfl; (· (simp -implicitDefEqProofs [hbb]; done))))
        refine RunD.alt1 14 (by kernel_rfl) (by kernel_rfl) (show PendOk _ c9d2 _ _ [] from trivial) ?_
        (first | (apply AStep.o0 rfl; (· (simp -implicitDefEqProofs; exact ⟨rfl, rfl⟩))) | (apply AStep.A rfl; (· (simp -implicitDefEqProofs; done)); (· (simp -implicitDefEqProofs; exact ⟨rfl, rfl⟩))) | (apply AStep.N rfl; (· (simp -implicitDefEqProofs; done))))
        refine RunD.fin (by kernel_rfl) (show PendOk _ c9d2 _ _ [] from trivial) ?_
        (repeat (first | refine Run.seq ?_ | refine Run.reg ?_ | refine Run.skip ?_ | refine Run.block ?_ | refine Run.endB ?_ | refine Run.opE rfl ?_ | (apply Run.op0 rfl; (· (simp -implicitDefEqProofs; exact ⟨rfl, rfl⟩))) | (apply Run.opA rfl; (· (simp -implicitDefEqProofs; done)); (· (simp -implicitDefEqProofs; exact ⟨rfl, rfl⟩))) | (apply Run.opN rfl; (· (simp -implicitDefEqProofs; done))) | (refine Run.condT ?_ ?_; (· (simp -implicitDefEqProofs; done))) | (refine Run.condF ?_ ?_; (· (simp -implicitDefEqProofs; done))) | refine Run.exit rfl ?_))
        refine Run.mv [2] _ _ (by rfl) (by decide) (by simp -implicitDefEqProofs [hwk, encP]) (by simp -implicitDefEqProofs [hwk, encP]) (ih ((i', k + 1, o ++ [(x.key, x.val)])) ?_ ?_)
        · exact ⟨hi2.1, by simp only; omega, by simp only [List.length_append, List.length_cons, List.length_nil]; omega, by rw [hgo]; simp⟩
        · simp only; omega
    | false =>
      have h1 : i < W.length := by
        rcases Nat.lt_or_ge i W.length with h | h
        · exact h
        · have h2 : k < S.length := by omega
          obtain ⟨x, hx, -, -, -⟩ := getL h2
          have hn : W[i]? = none := by rw [List.getElem?_eq_none_iff]; omega
          simp [turnB, hx, hn] at htb
      obtain ⟨p, hp, hpi, hpd, -⟩ := getL h1
      rw [now_other hp hpd htb hk] at hgo
      (repeat (first | refine Run.seq ?_ | refine Run.reg ?_ | refine Run.skip ?_ | refine Run.block ?_ | refine Run.endB ?_ | refine Run.opE rfl ?_ | (apply Run.op0 rfl; (· (simp -implicitDefEqProofs [h1, hp, hpi, encP, hbb]; exact ⟨rfl, rfl⟩))) | (apply Run.opA rfl; (· (simp -implicitDefEqProofs [h1, hp, hpi, encP, hbb]; done)); (· (simp -implicitDefEqProofs [h1, hp, hpi, encP, hbb]; exact ⟨rfl, rfl⟩))) | (apply Run.opN rfl; (· (simp -implicitDefEqProofs [h1, hp, hpi, encP, hbb]; done))) | (refine Run.condT ?_ ?_; (· (simp -implicitDefEqProofs [h1, hp, hpi, encP, hbb]; done))) | (refine Run.condF ?_ ?_; (· (simp -implicitDefEqProofs [h1, hp, hpi, encP, hbb]; done))) | refine Run.exit rfl ?_))
      refine Run.mv [2] _ _ (by rfl) (by decide) (by simp -implicitDefEqProofs [hwi, encP]) (by simp -implicitDefEqProofs [hwi, encP]) (ih ((i + 1, k, o ++ [p])) ?_ ?_)
      · exact ⟨by simp only; omega, hk, by simp only [List.length_append, List.length_cons, List.length_nil]; omega, by rw [hgo]; simp⟩
      · simp only; omega
  · have h1 : ¬ i < W.length := fun h => hdone (.inl h)
    have h2 : ¬ k < S.length := fun h => hdone (.inr h)
    have hd1 : W.drop i = [] := List.drop_eq_nil_of_le (by omega)
    have hd2 : S.drop k = [] := List.drop_eq_nil_of_le (by omega)
    rw [hd1, hd2, now_nil, List.append_nil] at hgo
    subst hgo
    clear ih
    (repeat (first | refine Run.seq ?_ | refine Run.reg ?_ | refine Run.skip ?_ | refine Run.block ?_ | refine Run.endB ?_ | refine Run.opE rfl ?_ | (apply Run.op0 rfl; (· (simp -implicitDefEqProofs [h1, h2]; exact ⟨rfl, rfl⟩))) | (apply Run.opA rfl; (· (simp -implicitDefEqProofs [h1, h2]; done)); (· (simp -implicitDefEqProofs [h1, h2]; exact ⟨rfl, rfl⟩))) | (apply Run.opN rfl; (· (simp -implicitDefEqProofs [h1, h2]; done))) | (refine Run.condT ?_ ?_; (· (simp -implicitDefEqProofs [h1, h2]; done))) | (refine Run.condF ?_ ?_; (· (simp -implicitDefEqProofs [h1, h2]; done))) | refine Run.exit rfl ?_))
    refine Run.freeze 0 (es := F.map encP) (sz := 2) (by simp) ?_
    refine Run.mv [] [(106, .vs (F.map encP) 2), (107, .vs (m.map encE) 4)] [] (by rfl) (by decide) (by simp -implicitDefEqProofs) (by simp -implicitDefEqProofs) ?_
    refine Run.opC rfl rfl rfl (hvat _) ?_
    rintro v h' ⟨rfl, rfl⟩
    (repeat (first | refine Run.seq ?_ | refine Run.reg ?_ | refine Run.skip ?_ | refine Run.block ?_ | refine Run.endB ?_ | refine Run.opE rfl ?_ | (apply Run.op0 rfl; (· (simp -implicitDefEqProofs; exact ⟨rfl, rfl⟩))) | (apply Run.opA rfl; (· (simp -implicitDefEqProofs; done)); (· (simp -implicitDefEqProofs; exact ⟨rfl, rfl⟩))) | (apply Run.opN rfl; (· (simp -implicitDefEqProofs; done))) | (refine Run.condT ?_ ?_; (· (simp -implicitDefEqProofs; done))) | (refine Run.condF ?_ ?_; (· (simp -implicitDefEqProofs; done))) | refine Run.exit rfl ?_))
    refine Run.opC rfl rfl rfl (sameP_at F F hvl _) ?_
    rintro v h' ⟨rfl, rfl⟩
    (repeat (first | refine Run.seq ?_ | refine Run.reg ?_ | refine Run.skip ?_ | refine Run.block ?_ | refine Run.endB ?_ | refine Run.opE rfl ?_ | (apply Run.op0 rfl; (· (simp -implicitDefEqProofs; exact ⟨rfl, rfl⟩))) | (apply Run.opA rfl; (· (simp -implicitDefEqProofs; done)); (· (simp -implicitDefEqProofs; exact ⟨rfl, rfl⟩))) | (apply Run.opN rfl; (· (simp -implicitDefEqProofs; done))) | (refine Run.condT ?_ ?_; (· (simp -implicitDefEqProofs; done))) | (refine Run.condF ?_ ?_; (· (simp -implicitDefEqProofs; done))) | refine Run.exit rfl ?_))
    refine Run.opC rfl (by simp) rfl (awake_at _) ?_
    rintro v h' ⟨rfl, rfl⟩
    (repeat (first | refine Run.seq ?_ | refine Run.reg ?_ | refine Run.skip ?_ | refine Run.block ?_ | refine Run.endB ?_ | refine Run.opE rfl ?_ | (apply Run.op0 rfl; (· (simp -implicitDefEqProofs; exact ⟨rfl, rfl⟩))) | (apply Run.opA rfl; (· (simp -implicitDefEqProofs; done)); (· (simp -implicitDefEqProofs; exact ⟨rfl, rfl⟩))) | (apply Run.opN rfl; (· (simp -implicitDefEqProofs; done))) | (refine Run.condT ?_ ?_; (· (simp -implicitDefEqProofs; done))) | (refine Run.condF ?_ ?_; (· (simp -implicitDefEqProofs; done))) | refine Run.exit rfl ?_))
    exact hend trivial (by simp)

end Go.Proofs.Ytphpkigfmmanhaa
