/-
  Layer 11, part EachB: the walk of Each's closure.
-/
import Derived.Test.YtphpkigfmmanhaaEachA
namespace Go.Proofs.Ytphpkigfmmanhaa
open Sx Go
set_option maxRecDepth 100000
set_option linter.unusedSimpArgs false
set_option linter.unusedVariables false
set_option linter.unnecessarySimpa false
attribute [local simp] guardB isCall opStep Opd.ev put readAt aBin aUn args0 V.celled V.ones V.one V.cells putAt bounds bound1 elemsOf srcOf appendV fillAt fillEl V.pures V.pure unwind evs ARes.ev mkRes V.ren V.renL O.ren eqCells eq1 aEq aMM hasTy hasTyN okTy mmGo Known HLe OLe VsLe.refl VLe.refl Stay VsLe V.frz V.frzL O.frz fr clearV rn KnownR Objs OLeO ObjsE nm back setAll ren_ite take_map_len List.take_of_length_le
attribute [local simp ↓] upd_app tl_cons tl_nil
attribute [local simp] encE_ren encE_ones encE_len encE_take

def encN (a : Nat) : List V := [.int .i64 a]
/-- the caller's list: nil at first -/
def cellV : List En → V
  | [] => .nils
  | o => .sl 5 0 o.length 4 none
def tailO : List En → O
  | [] => .gone
  | o => .arr (o.map encE) 4
theorem cellV_ren {ρ : Nat → Option Nat} (h : ρ 5 = some 5) (o : List En) : (cellV o).ren ρ = cellV o := by cases o <;> simp [cellV, V.ren, h]
theorem tailO_ren (ρ) (o : List En) : (tailO o).ren ρ = tailO o := by cases o <;> rfl
theorem objs_skip {X : O} (hX : ∀ ρ, X.ren ρ = X) (ρ) (h : List O) (j : Nat) (js : List Nat) (os : List O) (hj : h[j]? = some X) : Objs ρ h (j :: js) (X :: os) ↔ Objs ρ h js os := by
  simp only [Objs, hj, OLeO, hX, OLe.refl, true_and]
theorem tail_skip (o : List En) (ρ) (h : List O) (j : Nat) (js : List Nat) (os : List O) (hj : h[j]? = some (tailO o)) : Objs ρ h (j :: js) (tailO o :: os) ↔ Objs ρ h js os := objs_skip (fun ρ => tailO_ren ρ o) ρ h j js os hj
attribute [local simp ↓] tailO_ren tail_skip
attribute [local simp] cellV_ren
theorem encL_ren (ρ) (l : List En) : V.renL ρ (encL l) = encL l := rfl
def remM (ls : List (List En)) (ps : List Nat) : List (List En) := List.zipWith (fun l a => l.drop a) ls ps
def eachH (X Y : O) (L : LoopC) (ts : List (Nat × V)) (ls : List (List En)) (o : List En) (ps : List Nat) : List O :=
  [X, Y, .row [cellV o], .row [.vs (ls.map encL) 1], .loop L ts .ready, tailO o, .arr (ps.map encN) 1]

def lstI : Option (Nat × En) → Int
  | none => -1
  | some (i, _) => i
def newB (R : List (List En)) (j : Nat) : Bool := match R[j]? with
  | some (x :: _) => match lstG R j with
    | none => true
    | some (_, y) => lessE x y
  | _ => false
theorem lstI_succ (R : List (List En)) (j : Nat) : lstI (lstG R (j + 1)) = if newB R j = true then (j : Int) else lstI (lstG R j) := by
  cases hR : R[j]? with
  | none => simp [lstG, newB, hR]
  | some l =>
    cases l with
    | nil => simp [lstG, newB, hR]
    | cons x r =>
      cases hl : lstG R j with
      | none => simp [lstG, newB, hR, hl, lstI]
      | some p =>
        cases hx : lessE x p.2 <;> simp [lstG, newB, hR, hl, lstI, hx]
theorem remM_get (ls : List (List En)) (ps : List Nat) (i : Nat) {l : List En} {p : Nat} (hl : ls[i]? = some l) (hp : ps[i]? = some p) : (remM ls ps)[i]? = some (l.drop p) := by
  rw [remM, List.getElem?_zipWith, hl, hp]
theorem remM_inv {ls : List (List En)} {ps : List Nat} {i : Nat} {y : En} {r} (h : (remM ls ps)[i]? = some (y :: r)) : ∃ l p, ls[i]? = some l ∧ ps[i]? = some p ∧ p < l.length ∧ l[p]? = some y := by
  rw [remM, List.getElem?_zipWith] at h
  cases hl : ls[i]? with
  | none => rw [hl] at h; cases h
  | some l =>
    cases hp : ps[i]? with
    | none => rw [hl, hp] at h; cases h
    | some p =>
      rw [hl, hp] at h
      simp only [Option.some.injEq] at h
      have hlt : p < l.length := by
        rcases Nat.lt_or_ge p l.length with h1 | h1
        · exact h1
        · rw [List.drop_eq_nil_of_le h1] at h; cases h
      refine ⟨l, p, rfl, rfl, hlt, ?_⟩
      rw [List.drop_eq_getElem_cons hlt] at h
      cases h; simp [hlt]
theorem cellV_app (o : List En) (e : En) : cellV (o ++ [e]) = .sl 5 0 (o.length + 1) 4 none := by cases o <;> simp [cellV]
theorem tailO_app (o : List En) (e : En) : tailO (o ++ [e]) = .arr ((o ++ [e]).map encE) 4 := by cases o <;> simp [tailO]
theorem remM_len {ls : List (List En)} {ps : List Nat} (h : ps.length = ls.length) : (remM ls ps).length = ls.length := by simp [remM, h]
/-- a list's place behind an entry that goes -/
def stepP (y : En) (l : List En) (p : Nat) : Bool := match l[p]? with
  | some x => sameK x y
  | none => false
theorem stepP_drop (y : En) (l : List En) (p : Nat) (hp : p ≤ l.length) : l.drop (if stepP y l p = true then p + 1 else p) = dropK y (l.drop p) ∧ (if stepP y l p = true then p + 1 else p) ≤ l.length := by
  by_cases h : p < l.length
  · obtain ⟨x, hx, -, hd, -⟩ := getL h
    have hs : stepP y l p = sameK x y := by rw [stepP, hx]
    rw [hs, hd, dropK]
    by_cases hs : sameK x y = true
    · rw [if_pos hs, if_pos hs]; exact ⟨rfl, h⟩
    · rw [if_neg hs, if_neg hs]; exact ⟨hd, hp⟩
  · have h0 : l[p]? = none := by rw [List.getElem?_eq_none_iff]; omega
    have hs : stepP y l p = false := by rw [stepP, h0]
    have hd : l.drop p = [] := List.drop_eq_nil_of_le (by omega)
    rw [hs, if_neg (by simp)]
    exact ⟨by rw [hd]; rfl, hp⟩

/-- a name for nothing -/
theorem goneA {E : Env} {k t h} (hr : Run E ⟨k, t, h ++ [.gone]⟩) : Run E ⟨k, t, h⟩ := by
  intro c0 w0 h0 c w a hadv hh ht hd b items cs hb hbk hk
  simp only at hadv hh ht hk
  have hget : ∀ (i : Nat) (o : O), (h ++ [O.gone])[i]? = some o → o.live → h[i]? = some o := by
    intro i o ho hl
    rcases Nat.lt_or_ge i h.length with h1 | h1
    · rwa [List.getElem?_append_left h1] at ho
    · rw [List.getElem?_append_right h1] at ho
      cases hi : i - h.length with
      | zero => rw [hi] at ho; cases ho; exact hl.elim
      | succ n => rw [hi] at ho; cases ho
  have hlive : ∀ i, Live (h ++ [O.gone]) i → Live h i := fun i ⟨o, h1, h2⟩ => ⟨o, hget i o h1 h2, h2⟩
  refine hr c0 w0 h0 c w a ⟨hadv.m, hadv.ro, by have := hadv.len; simp; omega, fun i hi hl => hadv.live i hi (hlive i hl), hadv.size, hadv.frame, hadv.fresh, hadv.freshro, hadv.os, hadv.output, hadv.tape⟩
    ⟨hh.ro, fun i p hi => by have := hh.dom i p hi; simp; omega, fun i o ho hl => hh.obj i o (hget i o ho hl) hl, fun i j p q hi hj => hh.inj i j p q (hlive i hi) (hlive j hj)⟩ ht hd b items cs hb hbk hk

theorem each1_tri (X Y : O) (hX : ∀ ρ, X.ren ρ = X) (hY : ∀ ρ, Y.ren ρ = Y) (L : LoopC) (ts : List (Nat × V)) (hts : ∀ ρ : Nat → Option Nat, ρ 0 = some 0 → ρ 1 = some 1 → ρ 2 = some 2 → ts.map (fun x => (x.1, x.2.ren ρ)) = ts)
    (ls : List (List En)) (hls : ls.length ≤ 100) (hm : mayL ls = true) (I : List En → Prop) (stop : List En → En → Bool) (Qd : List En → En → List O → Prop) (hQd : ∀ o e H, Qd o e H → 5 ≤ H.length ∧ Stay H.length H) (hI0 : I [])
    (hround : ∀ o e ps, I o → TriY Try.prog 4 [.agg (encE e)] (eachH X Y L ts ls o ps ++ [.row (encE e)]) (fun v H' =>
      (stop o e = false ∧ I (o ++ [e]) ∧ v = .bool true ∧ H' = [X, Y, .row [.sl 8 0 (o.length + 1) 4 none], .row [.vs (ls.map encL) 1], .loop L ts .ready, .gone, .arr (ps.map encN) 1, .row (encE e), .arr ((o ++ [e]).map encE) 4]) ∨
      (stop o e = true ∧ v = .bool false ∧ Qd o e H'))) :
    Tri Try.prog 30 [.yld 4, .ptr 3 0] [X, Y, .row [.nils], .row [.vs (ls.map encL) 1], .loop L ts .ready] (fun v H' => v = .tup [] ∧
      ((I (eachM ls) ∧ H' = [X, Y, .row [cellV (eachM ls)], .row [.vs (ls.map encL) 1], .loop L ts .ready, tailO (eachM ls)]) ∨
        ∃ o e r, eachM ls = o ++ e :: r ∧ I o ∧ stop o e = true ∧ Qd o e H')) := by
  have hlen := mayL_len hm
  have hXo := objs_skip hX
  have hYo := objs_skip hY
  refine Tri.of_run' Try.func30 rfl c30_ok (by simp [Try.ntmps30]) ?_
  (repeat (first | refine Run.seq ?_ | refine Run.reg ?_ | refine Run.skip ?_ | refine Run.block ?_ | refine Run.endB ?_ | refine Run.opE rfl ?_ | (apply Run.op0 rfl; (· (simp -implicitDefEqProofs; exact ⟨rfl, rfl⟩))) | (apply Run.opA rfl; (· (simp -implicitDefEqProofs; done)); (· (simp -implicitDefEqProofs; exact ⟨rfl, rfl⟩))) | (apply Run.opN rfl; (· (simp -implicitDefEqProofs; done))) | (refine Run.condT ?_ ?_; (· (simp -implicitDefEqProofs; done))) | (refine Run.condF ?_ ?_; (· (simp -implicitDefEqProofs; done))) | refine Run.exit rfl ?_))
  refine Run.opC rfl rfl rfl (mayL_at ls (by omega) _) ?_
  rintro v h' ⟨rfl, rfl⟩
  have hb8 : (ls.length : Int) * 8 ≤ 70368744177664 := by omega
  have hb1 : (ls.length : Int) ≤ 70368744177664 := by omega
  have hrep : ∀ n : Nat, List.replicate n [V.int .i64 0] = (List.replicate n 0).map encN := fun n => by rw [List.map_replicate]; rfl
  refine goneA ?_
  (repeat (first | refine Run.seq ?_ | refine Run.reg ?_ | refine Run.skip ?_ | refine Run.block ?_ | refine Run.endB ?_ | refine Run.opE rfl ?_ | (apply Run.op0 rfl; (· (simp -implicitDefEqProofs [hm, hb8, hb1]; exact ⟨rfl, rfl⟩))) | (apply Run.opA rfl; (· (simp -implicitDefEqProofs [hm, hb8, hb1]; done)); (· (simp -implicitDefEqProofs [hm, hb8, hb1]; exact ⟨rfl, rfl⟩))) | (apply Run.opN rfl; (· (simp -implicitDefEqProofs [hm, hb8, hb1]; done))) | (refine Run.condT ?_ ?_; (· (simp -implicitDefEqProofs [hm, hb8, hb1]; done))) | (refine Run.condF ?_ ?_; (· (simp -implicitDefEqProofs [hm, hb8, hb1]; done))) | refine Run.exit rfl ?_))
  refine Run.loopC [0, 1, 2, 3, 4, 5, 6] (fun (a : List En × List Nat) => ([(0, .yld 4), (1, .ptr 3 0), (3, .sl 6 0 ls.length 1 (some ls.length))], eachH X Y L ts ls a.1 a.2))
    (fun a => I a.1 ∧ a.2.length = ls.length ∧ (∀ (k : Nat) (l : List En) (p : Nat), ls[k]? = some l → a.2[k]? = some p → p ≤ l.length) ∧ eachM ls = a.1 ++ eachM (remM ls a.2)) (fun a => totL (remM ls a.2)) ([], List.replicate ls.length 0) ?_ (by rfl) (by decide) (by simp) (by unfold eachH; simp [cellV, tailO, ↓hXo, ↓hYo, hts, hrep]) ?_
  · refine ⟨hI0, by simp, fun k l p hl hp => ?_, ?_⟩
    · have := List.eq_of_mem_replicate (List.mem_of_getElem? hp); omega
    · have : remM ls (List.replicate ls.length 0) = ls := by
        unfold remM
        apply List.ext_getElem?
        intro k
        rw [List.getElem?_zipWith]
        cases hk : ls[k]? with
        | none => rfl
        | some l => rw [List.getElem?_replicate, if_pos (List.getElem?_eq_some_iff.1 hk).1]; rfl
      rw [this]; rfl
  rintro ⟨o, ps⟩ ⟨hI, hpl, hps, hgo⟩ ih
  simp only at hI hpl hps hgo ih ⊢
  unfold eachH
  have hRl := remM_len hpl
  generalize hR : remM ls ps = R at *
  (repeat (first | refine Run.seq ?_ | refine Run.reg ?_ | refine Run.skip ?_ | refine Run.block ?_ | refine Run.endB ?_ | refine Run.opE rfl ?_ | (apply Run.op0 rfl; (· (simp -implicitDefEqProofs; exact ⟨rfl, rfl⟩))) | (apply Run.opA rfl; (· (simp -implicitDefEqProofs; done)); (· (simp -implicitDefEqProofs; exact ⟨rfl, rfl⟩))) | (apply Run.opN rfl; (· (simp -implicitDefEqProofs; done))) | (refine Run.condT ?_ ?_; (· (simp -implicitDefEqProofs; done))) | (refine Run.condF ?_ ?_; (· (simp -implicitDefEqProofs; done))) | refine Run.exit rfl ?_))
  refine Run.loopC [0, 1, 2, 3, 4, 5, 6] (fun (j : Nat) => ([(0, .yld 4), (1, .ptr 3 0), (3, .sl 6 0 ls.length 1 (some ls.length)), (4, .int .i64 (lstI (lstG R j))), (16, .vs (ls.map encL) 1), (17, .int .i64 ls.length), (18, .int .i64 j)], [X, Y, .row [cellV o], .row [.vs (ls.map encL) 1], .loop L ts .ready, tailO o, .arr (ps.map encN) 1]))
    (fun j => j ≤ ls.length) (fun j => ls.length - j) 0 (by simp) (by rfl) (by decide) (by simp [lstG, lstI]) (by simp [↓hXo, ↓hYo, hts]) ?_
  · intro j hj ihj
    by_cases hlt : j < ls.length
    · obtain ⟨l, hl, hli, -, hlm⟩ := getL hlt
      have hltp : j < ps.length := by omega
      obtain ⟨p, hp, hpi, -, -⟩ := getL hltp
      have hpl' := hps j l p hl hp
      have hl5 := hlen l hlm
      have hw := wrap_small (n := (j : Int) + 1) (by omega) (by omega)
      have hRj : R[j]? = some (l.drop p) := by rw [← hR]; exact remM_get ls ps j hl hp
      (repeat (first | refine Run.seq ?_ | refine Run.reg ?_ | refine Run.skip ?_ | refine Run.block ?_ | refine Run.endB ?_ | refine Run.opE rfl ?_ | (apply Run.op0 rfl; (· (simp -implicitDefEqProofs [hlt, hl, hli, encL]; exact ⟨rfl, rfl⟩))) | (apply Run.opA rfl; (· (simp -implicitDefEqProofs [hlt, hl, hli, encL]; done)); (· (simp -implicitDefEqProofs [hlt, hl, hli, encL]; exact ⟨rfl, rfl⟩))) | (apply Run.opN rfl; (· (simp -implicitDefEqProofs [hlt, hl, hli, encL]; done))) | (refine Run.condT ?_ ?_; (· (simp -implicitDefEqProofs [hlt, hl, hli, encL]; done))) | (refine Run.condF ?_ ?_; (· (simp -implicitDefEqProofs [hlt, hl, hli, encL]; done))) | refine Run.exit rfl ?_))
      refine Run.quietM prog_mixed (by kernel_rfl) [0, 1, 2, 3, 4, 5, 6] [(0, .yld 4), (1, .ptr 3 0), (3, .sl 6 0 ls.length 1 (some ls.length)), (4, .int .i64 (lstI (lstG R j))), (5, .int .i64 j), (16, .vs (ls.map encL) 1), (17, .int .i64 ls.length), (18, .int .i64 j), (53, .bool (newB R j))] [X, Y, .row [cellV o], .row [.vs (ls.map encL) 1], .loop L ts .ready, tailO o, .arr (ps.map encN) 1] (by rfl) (by decide) ?_ ?_
      · by_cases hpp : p < l.length
        · obtain ⟨x, hx, hxi, hxd, -⟩ := getL hpp
          rw [hxd] at hRj
          cases hlst : lstG R j with
          | none =>
            (repeat (first | refine execQ_E rfl ?_ | (apply execQ_0 rfl; (· rfl); (· (simp -implicitDefEqProofs [hlt, hl, hli, encL, hltp, hp, hpi, hpl, encN, hpp, hlst, lstI]; exact ⟨rfl, rfl⟩))) | (apply execQ_A rfl; (· (simp -implicitDefEqProofs [hlt, hl, hli, encL, hltp, hp, hpi, hpl, encN, hpp, hlst, lstI]; done)); (· rfl); (· (simp -implicitDefEqProofs [hlt, hl, hli, encL, hltp, hp, hpi, hpl, encN, hpp, hlst, lstI]; exact ⟨rfl, rfl⟩))) | (apply execQ_N rfl; (· (simp -implicitDefEqProofs [hlt, hl, hli, encL, hltp, hp, hpi, hpl, encN, hpp, hlst, lstI]; done)))))
            simp [newB, hRj, hlst, lstI, ↓hXo, ↓hYo, hts]
          | some iy =>
            obtain ⟨i, y⟩ := iy
            obtain ⟨hij, r, hRi⟩ := lstG_spec hlst
            rw [← hR] at hRi
            obtain ⟨l2, p2, hl2, hp2, hpp2, hy⟩ := remM_inv hRi
            have hi1 : i < ls.length := by omega
            have hi2 : i < ps.length := by omega
            have hl2i : ls[i] = l2 := by rw [List.getElem?_eq_getElem hi1] at hl2; exact Option.some.inj hl2
            have hp2i : ps[i] = p2 := by rw [List.getElem?_eq_getElem hi2] at hp2; exact Option.some.inj hp2
            have hyi : l2[p2] = y := by rw [List.getElem?_eq_getElem hpp2] at hy; exact Option.some.inj hy
            have hni : ¬ ((i : Int) < 0) := by omega
            (repeat (first | refine execQ_E rfl ?_ | (apply execQ_0 rfl; (· rfl); (· (simp -implicitDefEqProofs [hlt, hl, hli, encL, hltp, hp, hpi, hpl, encN, hpp, hlst, lstI, hx, hxi, hi1, hi2, hl2, hl2i, hp2, hp2i, hy, hyi, hpp2, hni]; exact ⟨rfl, rfl⟩))) | (apply execQ_A rfl; (· (simp -implicitDefEqProofs [hlt, hl, hli, encL, hltp, hp, hpi, hpl, encN, hpp, hlst, lstI, hx, hxi, hi1, hi2, hl2, hl2i, hp2, hp2i, hy, hyi, hpp2, hni]; done)); (· rfl); (· (simp -implicitDefEqProofs [hlt, hl, hli, encL, hltp, hp, hpi, hpl, encN, hpp, hlst, lstI, hx, hxi, hi1, hi2, hl2, hl2i, hp2, hp2i, hy, hyi, hpp2, hni]; exact ⟨rfl, rfl⟩))) | (apply execQ_N rfl; (· (simp -implicitDefEqProofs [hlt, hl, hli, encL, hltp, hp, hpi, hpl, encN, hpp, hlst, lstI, hx, hxi, hi1, hi2, hl2, hl2i, hp2, hp2i, hy, hyi, hpp2, hni]; done)))))
            refine execQ_C rfl rfl rfl (less_at x y _) ?_
            (repeat (first | refine execQ_E rfl ?_ | (apply execQ_0 rfl; (· rfl); (· (simp -implicitDefEqProofs; exact ⟨rfl, rfl⟩))) | (apply execQ_A rfl; (· (simp -implicitDefEqProofs; done)); (· rfl); (· (simp -implicitDefEqProofs; exact ⟨rfl, rfl⟩))) | (apply execQ_N rfl; (· (simp -implicitDefEqProofs; done)))))
            simp [newB, hRj, hlst, lstI, ↓hXo, ↓hYo, hts]
        · have hd : l.drop p = [] := List.drop_eq_nil_of_le (by omega)
          rw [hd] at hRj
          (repeat (first | refine execQ_E rfl ?_ | (apply execQ_0 rfl; (· rfl); (· (simp -implicitDefEqProofs [hlt, hl, hli, encL, hltp, hp, hpi, hpl, encN, hpp]; exact ⟨rfl, rfl⟩))) | (apply execQ_A rfl; (· (simp -implicitDefEqProofs [hlt, hl, hli, encL, hltp, hp, hpi, hpl, encN, hpp]; done)); (· rfl); (· (simp -implicitDefEqProofs [hlt, hl, hli, encL, hltp, hp, hpi, hpl, encN, hpp]; exact ⟨rfl, rfl⟩))) | (apply execQ_N rfl; (· (simp -implicitDefEqProofs [hlt, hl, hli, encL, hltp, hp, hpi, hpl, encN, hpp]; done)))))
          simp [newB, hRj, ↓hXo, ↓hYo, hts]
      cases hnb : newB R j with
      | true =>
        (repeat (first | refine Run.seq ?_ | refine Run.reg ?_ | refine Run.skip ?_ | refine Run.block ?_ | refine Run.endB ?_ | refine Run.opE rfl ?_ | (apply Run.op0 rfl; (· (simp -implicitDefEqProofs; exact ⟨rfl, rfl⟩))) | (apply Run.opA rfl; (· (simp -implicitDefEqProofs; done)); (· (simp -implicitDefEqProofs; exact ⟨rfl, rfl⟩))) | (apply Run.opN rfl; (· (simp -implicitDefEqProofs; done))) | (refine Run.condT ?_ ?_; (· (simp -implicitDefEqProofs; done))) | (refine Run.condF ?_ ?_; (· (simp -implicitDefEqProofs; done))) | refine Run.exit rfl ?_))
        refine Run.mv [0, 1, 2, 3, 4, 5, 6] _ _ (by rfl) (by decide) (by simp [hw, lstI_succ, hnb]) (by simp [↓hXo, ↓hYo, hts]) (ihj (j + 1) ?_ ?_)
        · omega
        · omega
      | false =>
        (repeat (first | refine Run.seq ?_ | refine Run.reg ?_ | refine Run.skip ?_ | refine Run.block ?_ | refine Run.endB ?_ | refine Run.opE rfl ?_ | (apply Run.op0 rfl; (· (simp -implicitDefEqProofs; exact ⟨rfl, rfl⟩))) | (apply Run.opA rfl; (· (simp -implicitDefEqProofs; done)); (· (simp -implicitDefEqProofs; exact ⟨rfl, rfl⟩))) | (apply Run.opN rfl; (· (simp -implicitDefEqProofs; done))) | (refine Run.condT ?_ ?_; (· (simp -implicitDefEqProofs; done))) | (refine Run.condF ?_ ?_; (· (simp -implicitDefEqProofs; done))) | refine Run.exit rfl ?_))
        refine Run.mv [0, 1, 2, 3, 4, 5, 6] _ _ (by rfl) (by decide) (by simp [hw, lstI_succ, hnb]) (by simp [↓hXo, ↓hYo, hts]) (ihj (j + 1) ?_ ?_)
        · omega
        · omega
    · have : j = ls.length := by omega
      subst this
      clear ihj
      cases hlst : lstG R ls.length with
      | none =>
        have hall : eachM ls = o := by rw [hgo, each_none (by rw [hRl]; exact hlst)]; simp
        rw [hall]
        (repeat (first | refine Run.seq ?_ | refine Run.reg ?_ | refine Run.skip ?_ | refine Run.block ?_ | refine Run.endB ?_ | refine Run.opE rfl ?_ | (apply Run.op0 rfl; (· (simp -implicitDefEqProofs [hlst, lstI]; exact ⟨rfl, rfl⟩))) | (apply Run.opA rfl; (· (simp -implicitDefEqProofs [hlst, lstI]; done)); (· (simp -implicitDefEqProofs [hlst, lstI]; exact ⟨rfl, rfl⟩))) | (apply Run.opN rfl; (· (simp -implicitDefEqProofs [hlst, lstI]; done))) | (refine Run.condT ?_ ?_; (· (simp -implicitDefEqProofs [hlst, lstI]; done))) | (refine Run.condF ?_ ?_; (· (simp -implicitDefEqProofs [hlst, lstI]; done))) | refine Run.exit rfl ?_))
        refine Run.mv [0, 1, 2, 3, 4, 5] [] [X, Y, .row [cellV o], .row [.vs (ls.map encL) 1], .loop L ts .ready, tailO o] (by rfl) (by decide) (by simp) (by simp [↓hXo, ↓hYo, hts]) ?_
        refine Run.retI Try.func30 r30_ok trivial (by simp [r30]; rfl) (by simp) ?_ (by simp [↓hX, ↓hY, hts, fr]) (by simp)
        exact ⟨rfl, .inl ⟨hI, rfl⟩⟩
      | some iy =>
        obtain ⟨i, y⟩ := iy
        obtain ⟨hij, r, hRi⟩ := lstG_spec hlst
        have hgo2 : eachM ls = o ++ y :: eachM (R.map (dropK y)) := by rw [hgo, each_some (by rw [hRl]; exact hlst)]
        have htot := tot_lt y R i r hRi
        rw [← hR] at hRi
        obtain ⟨l2, p2, hl2, hp2, hpp2, hy⟩ := remM_inv hRi
        have hi1 : i < ls.length := by omega
        have hi2 : i < ps.length := by omega
        have hl2i : ls[i] = l2 := by rw [List.getElem?_eq_getElem hi1] at hl2; exact Option.some.inj hl2
        have hp2i : ps[i] = p2 := by rw [List.getElem?_eq_getElem hi2] at hp2; exact Option.some.inj hp2
        have hyi : l2[p2] = y := by rw [List.getElem?_eq_getElem hpp2] at hy; exact Option.some.inj hy
        have hni : ¬ ((i : Int) < 0) := by omega
        (repeat (first | refine Run.seq ?_ | refine Run.reg ?_ | refine Run.skip ?_ | refine Run.block ?_ | refine Run.endB ?_ | refine Run.opE rfl ?_ | (apply Run.op0 rfl; (· (simp -implicitDefEqProofs [hlst, lstI, hni]; exact ⟨rfl, rfl⟩))) | (apply Run.opA rfl; (· (simp -implicitDefEqProofs [hlst, lstI, hni]; done)); (· (simp -implicitDefEqProofs [hlst, lstI, hni]; exact ⟨rfl, rfl⟩))) | (apply Run.opN rfl; (· (simp -implicitDefEqProofs [hlst, lstI, hni]; done))) | (refine Run.condT ?_ ?_; (· (simp -implicitDefEqProofs [hlst, lstI, hni]; done))) | (refine Run.condF ?_ ?_; (· (simp -implicitDefEqProofs [hlst, lstI, hni]; done))) | refine Run.exit rfl ?_))
        refine Run.drawn prog_mixed ?_
        show RunD _ c30d1 [0, 1, 2, 3, 4, 5, 6, 7, 8, 9, 10, 11] [] _ _ _
        refine RunD.flow [0, 1, 2, 3, 4, 5, 6, 7, 8, 9] (by kernel_rfl) (by decide +kernel) (by decide +kernel) (by decide) trivial ?_; (repeat (first | refine execQ_E rfl ?_ | (apply execQ_0 rfl; (· rfl); (· (simp -implicitDefEqProofs [lstI, hlst, hni, hi1, hi2, hpl, hl2, hl2i, hp2, hp2i, hy, hyi, hpp2, encL, encN, encE]; exact ⟨rfl, rfl⟩))) | (apply execQ_A rfl; (· (simp -implicitDefEqProofs [lstI, hlst, hni, hi1, hi2, hpl, hl2, hl2i, hp2, hp2i, hy, hyi, hpp2, encL, encN, encE]; done)); (· rfl); (· (simp -implicitDefEqProofs [lstI, hlst, hni, hi1, hi2, hpl, hl2, hl2i, hp2, hp2i, hy, hyi, hpp2, encL, encN, encE]; exact ⟨rfl, rfl⟩))) | (apply execQ_N rfl; (· (simp -implicitDefEqProofs [lstI, hlst, hni, hi1, hi2, hpl, hl2, hl2i, hp2, hp2i, hy, hyi, hpp2, encL, encN, encE]; done))))); intro hpo
        refine RunD.alt1 10 (by kernel_rfl) (by kernel_rfl) hpo ?_
        (first | (apply AStep.o0 rfl; (· (simp -implicitDefEqProofs; exact ⟨rfl, rfl⟩))) | (apply AStep.A rfl; (· (simp -implicitDefEqProofs; done)); (· (simp -implicitDefEqProofs; exact ⟨rfl, rfl⟩))) | (apply AStep.N rfl; (· (simp -implicitDefEqProofs; done))))
        refine RunD.alt1 11 (by kernel_rfl) (by kernel_rfl) (by
          show PendOk _ c30d1 _ _ [9, 8, 7, 6, 5, 4, 3, 2, 1, 0]
          (repeat (first | exact PendOk.nil | (refine PendOk.op rfl rfl rfl ?_ ?_; (· (simp -implicitDefEqProofs [lstI, hlst, hni, hi1, hi2, hpl, hl2, hl2i, hp2, hp2i, hy, hyi, hpp2, encL, encN, encE]; done))) | (refine PendOk.op rfl rfl ?_ ?_ ?_; (· (simp -implicitDefEqProofs [lstI, hlst, hni, hi1, hi2, hpl, hl2, hl2i, hp2, hp2i, hy, hyi, hpp2, encL, encN, encE]; done)); (· (simp -implicitDefEqProofs [lstI, hlst, hni, hi1, hi2, hpl, hl2, hl2i, hp2, hp2i, hy, hyi, hpp2, encL, encN, encE]; done))) | (refine PendOk.skip rfl rfl ?_ ?_; (· (simp -implicitDefEqProofs [lstI, hlst, hni, hi1, hi2, hpl, hl2, hl2i, hp2, hp2i, hy, hyi, hpp2, encL, encN, encE]; done)))))) ?_
        (first | (apply AStep.o0 rfl; (· (simp -implicitDefEqProofs; exact ⟨rfl, rfl⟩))) | (apply AStep.A rfl; (· (simp -implicitDefEqProofs; done)); (· (simp -implicitDefEqProofs; exact ⟨rfl, rfl⟩))) | (apply AStep.N rfl; (· (simp -implicitDefEqProofs; done))))
        refine RunD.fin (by kernel_rfl) (show PendOk _ c30d1 _ _ [] from trivial) ?_
        (repeat (first | refine Run.seq ?_ | refine Run.reg ?_ | refine Run.skip ?_ | refine Run.block ?_ | refine Run.endB ?_ | refine Run.opE rfl ?_ | (apply Run.op0 rfl; (· (simp -implicitDefEqProofs; exact ⟨rfl, rfl⟩))) | (apply Run.opA rfl; (· (simp -implicitDefEqProofs; done)); (· (simp -implicitDefEqProofs; exact ⟨rfl, rfl⟩))) | (apply Run.opN rfl; (· (simp -implicitDefEqProofs; done))) | (refine Run.condT ?_ ?_; (· (simp -implicitDefEqProofs; done))) | (refine Run.condF ?_ ?_; (· (simp -implicitDefEqProofs; done))) | refine Run.exit rfl ?_))
        have hy5 := hlen l2 (List.mem_of_getElem? hl2)
        refine Run.loopC [0, 1, 2, 3, 4, 5, 6, 7] (fun (a : Nat × List Nat) => ([(0, .yld 4), (1, .ptr 3 0), (3, .sl 6 0 ls.length 1 (some ls.length)), (7, .ptr 7 0), (68, .vs (ls.map encL) 1), (69, .int .i64 ls.length), (70, .int .i64 a.1)], [X, Y, .row [cellV o], .row [.vs (ls.map encL) 1], .loop L ts .ready, tailO o, .arr (a.2.map encN) 1, .row (encE y)]))
          (fun a => a.1 ≤ ls.length ∧ a.2.length = ls.length ∧ ∀ (k : Nat) (l : List En) (p q : Nat), ls[k]? = some l → ps[k]? = some p → a.2[k]? = some q → q = if k < a.1 ∧ stepP y l p = true then p + 1 else p) (fun a => ls.length - a.1) (0, ps) (by
            refine ⟨by omega, hpl, fun k l p q _ hp hq => ?_⟩
            rw [hp] at hq; cases hq; simp) (by rfl) (by decide) (by simp) (by simp [↓hXo, ↓hYo, hts, encE]) ?_
        rintro ⟨j, qs⟩ ⟨hj, hql, hqs⟩ ihj
        simp only at hj hql hqs ihj ⊢
        by_cases hlt : j < ls.length
        · obtain ⟨l, hl, hli, -, hlm⟩ := getL hlt
          have hltp : j < ps.length := by omega
          obtain ⟨p, hp, hpi, -, -⟩ := getL hltp
          have hltq : j < qs.length := by omega
          obtain ⟨q, hq, hqi, -, -⟩ := getL hltq
          have hqp : q = p := by have := hqs j l p q hl hp hq; simpa using this
          subst hqp
          have hpl' := hps j l q hl hp
          have hl5 := hlen l hlm
          have hw := wrap_small (n := (j : Int) + 1) (by omega) (by omega)
          have hwq := wrap_small (n := (q : Int) + 1) (by omega) (by omega)
          (repeat (first | refine Run.seq ?_ | refine Run.reg ?_ | refine Run.skip ?_ | refine Run.block ?_ | refine Run.endB ?_ | refine Run.opE rfl ?_ | (apply Run.op0 rfl; (· (simp -implicitDefEqProofs [hlt, hl, hli, encL]; exact ⟨rfl, rfl⟩))) | (apply Run.opA rfl; (· (simp -implicitDefEqProofs [hlt, hl, hli, encL]; done)); (· (simp -implicitDefEqProofs [hlt, hl, hli, encL]; exact ⟨rfl, rfl⟩))) | (apply Run.opN rfl; (· (simp -implicitDefEqProofs [hlt, hl, hli, encL]; done))) | (refine Run.condT ?_ ?_; (· (simp -implicitDefEqProofs [hlt, hl, hli, encL]; done))) | (refine Run.condF ?_ ?_; (· (simp -implicitDefEqProofs [hlt, hl, hli, encL]; done))) | refine Run.exit rfl ?_))
          refine Run.quietM prog_mixed (by kernel_rfl) [0, 1, 2, 3, 4, 5, 6, 7] [(0, .yld 4), (1, .ptr 3 0), (3, .sl 6 0 ls.length 1 (some ls.length)), (7, .ptr 7 0), (8, .int .i64 j), (68, .vs (ls.map encL) 1), (69, .int .i64 ls.length), (70, .int .i64 j), (107, .bool (stepP y l q))] [X, Y, .row [cellV o], .row [.vs (ls.map encL) 1], .loop L ts .ready, tailO o, .arr (qs.map encN) 1, .row (encE y)] (by rfl) (by decide) ?_ ?_
          · by_cases hpp : q < l.length
            · obtain ⟨x, hx, hxi, hxd, -⟩ := getL hpp
              by_cases hk : x.key = y.key
              · (repeat (first | refine execQ_E rfl ?_ | (apply execQ_0 rfl; (· rfl); (· (simp -implicitDefEqProofs [hlt, hl, hli, encL, hltq, hq, hqi, hql, encN, hpp, hx, hxi, encE, hk]; exact ⟨rfl, rfl⟩))) | (apply execQ_A rfl; (· (simp -implicitDefEqProofs [hlt, hl, hli, encL, hltq, hq, hqi, hql, encN, hpp, hx, hxi, encE, hk]; done)); (· rfl); (· (simp -implicitDefEqProofs [hlt, hl, hli, encL, hltq, hq, hqi, hql, encN, hpp, hx, hxi, encE, hk]; exact ⟨rfl, rfl⟩))) | (apply execQ_N rfl; (· (simp -implicitDefEqProofs [hlt, hl, hli, encL, hltq, hq, hqi, hql, encN, hpp, hx, hxi, encE, hk]; done)))))
                simp [stepP, hx, sameK, hk, ↓hXo, ↓hYo, hts, encE]
              · (repeat (first | refine execQ_E rfl ?_ | (apply execQ_0 rfl; (· rfl); (· (simp -implicitDefEqProofs [hlt, hl, hli, encL, hltq, hq, hqi, hql, encN, hpp, hx, hxi, encE, hk]; exact ⟨rfl, rfl⟩))) | (apply execQ_A rfl; (· (simp -implicitDefEqProofs [hlt, hl, hli, encL, hltq, hq, hqi, hql, encN, hpp, hx, hxi, encE, hk]; done)); (· rfl); (· (simp -implicitDefEqProofs [hlt, hl, hli, encL, hltq, hq, hqi, hql, encN, hpp, hx, hxi, encE, hk]; exact ⟨rfl, rfl⟩))) | (apply execQ_N rfl; (· (simp -implicitDefEqProofs [hlt, hl, hli, encL, hltq, hq, hqi, hql, encN, hpp, hx, hxi, encE, hk]; done)))))
                simp [stepP, hx, sameK, hk, ↓hXo, ↓hYo, hts, encE]
            · have hn : l[q]? = none := by rw [List.getElem?_eq_none_iff]; omega
              (repeat (first | refine execQ_E rfl ?_ | (apply execQ_0 rfl; (· rfl); (· (simp -implicitDefEqProofs [hlt, hl, hli, encL, hltq, hq, hqi, hql, encN, hpp]; exact ⟨rfl, rfl⟩))) | (apply execQ_A rfl; (· (simp -implicitDefEqProofs [hlt, hl, hli, encL, hltq, hq, hqi, hql, encN, hpp]; done)); (· rfl); (· (simp -implicitDefEqProofs [hlt, hl, hli, encL, hltq, hq, hqi, hql, encN, hpp]; exact ⟨rfl, rfl⟩))) | (apply execQ_N rfl; (· (simp -implicitDefEqProofs [hlt, hl, hli, encL, hltq, hq, hqi, hql, encN, hpp]; done)))))
              simp [stepP, hn, ↓hXo, ↓hYo, hts, encE]
          have hnx : ∀ (qs' : List Nat), (∀ k, k ≠ j → qs'[k]? = qs[k]?) → (∀ q', qs'[j]? = some q' → q' = if stepP y l q = true then q + 1 else q) → ∀ (k : Nat) (l : List En) (p q : Nat), ls[k]? = some l → ps[k]? = some p → qs'[k]? = some q → q = if k < j + 1 ∧ stepP y l p = true then p + 1 else p := by
            intro qs' h1 h2 k l' p' q' hl' hp' hq'
            by_cases hkj : k = j
            · subst hkj
              rw [hl] at hl'; cases hl'
              rw [hp] at hp'; cases hp'
              rw [h2 q' hq']
              simp
            · rw [h1 k hkj] at hq'
              rw [hqs k l' p' q' hl' hp' hq']
              have : (k < j + 1) ↔ (k < j) := by omega
              simp only [this]
          cases hst : stepP y l q with
          | true =>
            have hset : (qs.set j (q + 1)).length = qs.length := List.length_set ..
            (repeat (first | refine Run.seq ?_ | refine Run.reg ?_ | refine Run.skip ?_ | refine Run.block ?_ | refine Run.endB ?_ | refine Run.opE rfl ?_ | (apply Run.op0 rfl; (· (simp -implicitDefEqProofs [hlt, hltq, hq, hqi, hql, encN, hwq]; exact ⟨rfl, rfl⟩))) | (apply Run.opA rfl; (· (simp -implicitDefEqProofs [hlt, hltq, hq, hqi, hql, encN, hwq]; done)); (· (simp -implicitDefEqProofs [hlt, hltq, hq, hqi, hql, encN, hwq]; exact ⟨rfl, rfl⟩))) | (apply Run.opN rfl; (· (simp -implicitDefEqProofs [hlt, hltq, hq, hqi, hql, encN, hwq]; done))) | (refine Run.condT ?_ ?_; (· (simp -implicitDefEqProofs [hlt, hltq, hq, hqi, hql, encN, hwq]; done))) | (refine Run.condF ?_ ?_; (· (simp -implicitDefEqProofs [hlt, hltq, hq, hqi, hql, encN, hwq]; done))) | refine Run.exit rfl ?_))
            refine Run.mv [0, 1, 2, 3, 4, 5, 6, 7] _ _ (by rfl) (by decide) (by simp [hw]) (by simp [↓hXo, ↓hYo, hts, encE, encN, List.map_set]) (ihj (j + 1, qs.set j (q + 1)) ?_ ?_)
            · refine ⟨by simp only; omega, by simp only; omega, hnx _ (fun k hk => by simp [Ne.symm hk]) (fun q' hq' => ?_)⟩
              rw [hst, if_pos rfl]
              simp [hltq] at hq'; exact hq'.symm
            · simp only; omega
          | false =>
            (repeat (first | refine Run.seq ?_ | refine Run.reg ?_ | refine Run.skip ?_ | refine Run.block ?_ | refine Run.endB ?_ | refine Run.opE rfl ?_ | (apply Run.op0 rfl; (· (simp -implicitDefEqProofs; exact ⟨rfl, rfl⟩))) | (apply Run.opA rfl; (· (simp -implicitDefEqProofs; done)); (· (simp -implicitDefEqProofs; exact ⟨rfl, rfl⟩))) | (apply Run.opN rfl; (· (simp -implicitDefEqProofs; done))) | (refine Run.condT ?_ ?_; (· (simp -implicitDefEqProofs; done))) | (refine Run.condF ?_ ?_; (· (simp -implicitDefEqProofs; done))) | refine Run.exit rfl ?_))
            refine Run.mv [0, 1, 2, 3, 4, 5, 6, 7] _ _ (by rfl) (by decide) (by simp [hw]) (by simp [↓hXo, ↓hYo, hts, encE]) (ihj (j + 1, qs) ?_ ?_)
            · refine ⟨by simp only; omega, by simp only; omega, hnx _ (fun k hk => rfl) (fun q' hq' => ?_)⟩
              rw [hst]; rw [hq] at hq'; cases hq'; rfl
            · simp only; omega
        · have : j = ls.length := by omega
          subst this
          clear ihj
          have hfin : ∀ (k : Nat) (l : List En) (p q : Nat), ls[k]? = some l → ps[k]? = some p → qs[k]? = some q → q = if stepP y l p = true then p + 1 else p := by
            intro k l p q hl hp hq
            have := hqs k l p q hl hp hq
            have hk : k < ls.length := (List.getElem?_eq_some_iff.1 hl).1
            simpa [hk] using this
          have hq1 : ∀ (k : Nat) (l : List En) (q : Nat), ls[k]? = some l → qs[k]? = some q → q ≤ l.length := by
            intro k l q hl hq
            have hk : k < ls.length := (List.getElem?_eq_some_iff.1 hl).1
            obtain ⟨p, hp, -, -, -⟩ := getL (l := ps) (i := k) (by omega)
            rw [hfin k l p q hl hp hq]
            exact (stepP_drop y l p (hps k l p hl hp)).2
          have hq2 : remM ls qs = R.map (dropK y) := by
            rw [← hR]
            apply List.ext_getElem?
            intro k
            rw [List.getElem?_map]
            by_cases hk : k < ls.length
            · obtain ⟨l, hl, -, -, -⟩ := getL hk
              obtain ⟨p, hp, -, -, -⟩ := getL (l := ps) (i := k) (by omega)
              obtain ⟨q, hq, -, -, -⟩ := getL (l := qs) (i := k) (by omega)
              rw [remM_get ls qs k hl hq, remM_get ls ps k hl hp, hfin k l p q hl hp hq]
              simp only [Option.map_some]
              rw [(stepP_drop y l p (hps k l p hl hp)).1]
            · rw [List.getElem?_eq_none (by rw [remM_len hql]; omega), List.getElem?_eq_none (by rw [remM_len hpl]; omega)]; rfl
          (repeat (first | refine Run.seq ?_ | refine Run.reg ?_ | refine Run.skip ?_ | refine Run.block ?_ | refine Run.endB ?_ | refine Run.opE rfl ?_ | (apply Run.op0 rfl; (· (simp -implicitDefEqProofs; exact ⟨rfl, rfl⟩))) | (apply Run.opA rfl; (· (simp -implicitDefEqProofs; done)); (· (simp -implicitDefEqProofs; exact ⟨rfl, rfl⟩))) | (apply Run.opN rfl; (· (simp -implicitDefEqProofs; done))) | (refine Run.condT ?_ ?_; (· (simp -implicitDefEqProofs; done))) | (refine Run.condF ?_ ?_; (· (simp -implicitDefEqProofs; done))) | refine Run.exit rfl ?_))
          refine Run.mv [0, 1, 2, 3, 4, 5, 6, 7] [(0, .yld 4), (1, .ptr 3 0), (3, .sl 6 0 ls.length 1 (some ls.length)), (115, .yld 4), (116, .agg (encE y))] (eachH X Y L ts ls o qs ++ [.row (encE y)]) (by rfl) (by decide) (by simp [encE]) (by simp only [eachH, List.cons_append, List.nil_append]; simp [↓hXo, ↓hYo, hts, encE]) ?_
          refine Run.opY (hround o y qs hI) rfl rfl rfl ?_
          rintro v H' hcase
          rcases hcase with ⟨hs, hI2, rfl, rfl⟩ | ⟨hs, rfl, hQ⟩
          · (repeat (first | refine Run.seq ?_ | refine Run.reg ?_ | refine Run.skip ?_ | refine Run.block ?_ | refine Run.endB ?_ | refine Run.opE rfl ?_ | (apply Run.op0 rfl; (· (simp -implicitDefEqProofs; exact ⟨rfl, rfl⟩))) | (apply Run.opA rfl; (· (simp -implicitDefEqProofs; done)); (· (simp -implicitDefEqProofs; exact ⟨rfl, rfl⟩))) | (apply Run.opN rfl; (· (simp -implicitDefEqProofs; done))) | (refine Run.condT ?_ ?_; (· (simp -implicitDefEqProofs; done))) | (refine Run.condF ?_ ?_; (· (simp -implicitDefEqProofs; done))) | refine Run.exit rfl ?_))
            refine Run.mv [0, 1, 2, 3, 4, 8, 6] _ _ (by rfl) (by decide) (by simp) (by simp only [eachH, cellV_app, tailO_app]; simp [↓hXo, ↓hYo, hts]) (ih (o ++ [y], qs) ?_ ?_)
            · exact ⟨hI2, hql, fun k l p hl hp => hq1 k l p hl hp, by simp only; rw [hq2, hgo2]; simp⟩
            · simp only; rw [hq2]; exact htot
          · obtain ⟨hQ1, hQ2⟩ := hQd _ _ _ hQ
            (repeat (first | refine Run.seq ?_ | refine Run.reg ?_ | refine Run.skip ?_ | refine Run.block ?_ | refine Run.endB ?_ | refine Run.opE rfl ?_ | (apply Run.op0 rfl; (· (simp -implicitDefEqProofs; exact ⟨rfl, rfl⟩))) | (apply Run.opA rfl; (· (simp -implicitDefEqProofs; done)); (· (simp -implicitDefEqProofs; exact ⟨rfl, rfl⟩))) | (apply Run.opN rfl; (· (simp -implicitDefEqProofs; done))) | (refine Run.condT ?_ ?_; (· (simp -implicitDefEqProofs; done))) | (refine Run.condF ?_ ?_; (· (simp -implicitDefEqProofs; done))) | refine Run.exit rfl ?_))
            refine Run.retI Try.func30 r30_ok trivial (by simp [r30]; rfl) hQ1 ?_ hQ2 (by simp)
            exact ⟨rfl, .inr ⟨o, y, _, hgo2, hI, hs, hQ⟩⟩

end Go.Proofs.Ytphpkigfmmanhaa
