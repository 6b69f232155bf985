/-
  Texts of this claim, laid together by a program (wip/tools/shrink.py).
-/
import Derived.Test.YthphkcpbglhabaaGreatDoorAd1
import Derived.Laws.BytesString
import Derived.Laws.Externs
import Derived.KernelRfl
import Derived.Lib.Builder
import Derived.Lib.UnsafeStr
import Derived.MapKept
import Derived.AtR
import Derived.Eval
namespace Sx
open Go
set_option linter.unusedSimpArgs false
set_option linter.unusedVariables false
theorem run_sizeOf' {P : Program} {w : World} {t n b} (h : cSize P t = some (n, b)) : (Go.sizeOf t).run P w = .ok n w := by
 obtain ⟨d, i, _, hi, his⟩ := cSize_size h
 simp [Go.sizeOf, typeInfo, hi, his]
theorem sound_idxA {P : Program} {N c t a w h} (hh : HRel c w h) (ht : TRel N c t a) {ty : TypeId} {x i : Operand} {x' i' : Opd} {arr sz} (hc : cOp P N (.indexAddr ty x i) = some (.idxA x' i' arr sz)) {v h'}
  (hs : opStep t h (.idxA x' i' arr sz) = some (v, h')) : Ok P c w h (Instr.indexAt ty (a.eval x) (a.eval i)) v h' := by
 simp only [cOp] at hc
 split at hc
 ·rename_i x'' i'' len e hx hi hu
  split at hc
  case h_2 => cases hc
  case h_1 n b hk =>
   split at hc <;> cases hc
   rename_i hlen
   have r1 := opd_rel ht hx
   have r2 := opd_rel ht hi
   simp only [opStep] at hs
   generalize x'.ev t = xv at *
   generalize i'.ev t = iv at *
   generalize a.eval x = xc at *
   generalize a.eval i = ic at *
   split at hs
   case h_2 => cases hs
   case h_1 k n =>
    rw [r2.int_inv]
    split at hs
    case isFalse => cases hs
    case isTrue hb =>
     have hb' : 0 ≤ n ∧ n < (len : Int) := hb
     have htiny : ¬ len ≤ 1 := by omega
     split at hs <;> cases hs
     ·obtain ⟨p, hp, hn, rfl⟩ := r1.ptr_inv
      refine Ok.of_same hh (cv := .pointer (some ⟨p.block, p.base + _ + n.toNat * sz, none⟩)) ?_ (by rw [Nat.add_assoc]; exact .ptr _ _ _ p hp hn)
      simp [Instr.indexAt, Sem.run_bind, asIntOf, run_underlying hu, Instr.sureAddr, hb', htiny, run_sizeOf' hk, Addr.add_mid]
     ·obtain ⟨p, hp, hn, rfl⟩ := r1.eptr_inv
      refine Ok.of_same hh (cv := .pointer (some ⟨p.block, p.base + _ + _ + n.toNat * sz, none⟩)) ?_ (by rw [Nat.add_assoc]; exact .eptr _ _ _ _ _ p hp hn)
      simp [Instr.indexAt, Sem.run_bind, asIntOf, run_underlying hu, Instr.sureAddr, hb', htiny, run_sizeOf' hk, Addr.add_mid]
     ·obtain ⟨b, o, cs, g, h1, h2, h3, rfl⟩ := r1.rptr_inv
      refine Ok.of_same hh (cv := .pointer (some ⟨b, o + _ + n.toNat * sz, none⟩)) ?_ (by rw [Nat.add_assoc]; exact .rptr _ _ _ b o cs g h1 h2 h3)
      simp [Instr.indexAt, Sem.run_bind, asIntOf, run_underlying hu, Instr.sureAddr, hb', htiny, run_sizeOf' hk, Addr.add_mid]
 ·rename_i x'' i'' e hx hi hu
  split at hc
  case h_2 => cases hc
  case h_1 n b hk =>
   cases hc
   have r1 := opd_rel ht hx
   have r2 := opd_rel ht hi
   simp only [opStep] at hs
   generalize x'.ev t = xv at *
   generalize i'.ev t = iv at *
   generalize a.eval x = xc at *
   generalize a.eval i = ic at *
   split at hs
   case h_2 => cases hs
   case h_1 k n =>
    rw [r2.int_inv]
    split at hs
    ·rename_i es s
     split at hs
     case isFalse => cases hs
     case isTrue hb =>
      obtain ⟨rfl, h0⟩ := hb
      split at hs <;> cases hs
      rename_i cs hcs
      obtain ⟨hlt, rfl⟩ := List.getElem?_eq_some_iff.1 hcs
      rcases r1.vs_inv with ⟨b, o, cap, ccs, f, hb, hl, hsz, hones, hcc, hvv, rfl⟩ | ⟨a, rfl, _⟩
      ·have hb' : 0 ≤ n ∧ n < (es.length : Int) := by omega
       refine Ok.of_same hh (cv := .pointer (some ⟨b, o + n.toNat * s + 0, none⟩)) ?_ (.rptr _ _ _ b (o + n.toNat * s) ccs (f n.toNat) hb (fun j hj => hcc _ _ hlt (by rw [← hsz _ hlt]; exact hj)) (fun j hj => hvv _ hlt j hj))
       simp [Instr.indexAt, Sem.run_bind, asIntOf, run_underlying hu, hb', run_sizeOf' hk, Addr.add_mid]
      ·simp at hlt
    ·rename_i id off len s k'
     split at hs
     case isFalse => cases hs
     case isTrue hb =>
      obtain ⟨rfl, hb'⟩ := hb
      cases hs
      rcases r1.sl_inv with ⟨p, cap, o, hp, hn, hcap, ho, hto, hk', rfl⟩ | ⟨p, a, hp, hn, rfl, rfl, rfl, rfl⟩
      ·have ho' : o = p.base + off * s := by rcases ho with h | h; exact h; omega
       refine Ok.of_same hh (cv := .pointer (some ⟨p.block, o + n.toNat * s, none⟩)) ?_ ?_
       ·simp [Instr.indexAt, Sem.run_bind, asIntOf, run_underlying hu, hb', run_sizeOf' hk, Addr.add_mid]
       ·have : o + n.toNat * s = p.base + (off + n.toNat) * s + 0 := by rw [ho', Nat.add_mul]; omega
        rw [this]; exact .eptr _ _ _ _ _ p hp hn
      ·omega
    ·cases hs
 ·cases hc
theorem sound_idxG {P : Program} {N c t a w h} (hh : HRel c w h) (ht : TRel N c t a) {ty : TypeId} {x i : Operand} {x' i' : Opd} {len sz agg} (hc : cOp P N (.index ty x i) = some (.idxG x' i' len sz agg)) {v h'}
  (hs : opStep t h (.idxG x' i' len sz agg) = some (v, h')) : Ok P c w h (Instr.index ty (a.eval x) (a.eval i)) v h' := by
 simp only [cOp] at hc
 split at hc
 ·rename_i x'' i'' len e hx hi hu
  split at hc
  case h_2 => cases hc
  case h_1 n b hk =>
   cases hc
   have r1 := opd_rel ht hx
   have r2 := opd_rel ht hi
   simp only [opStep] at hs
   generalize x'.ev t = xv at *
   generalize i'.ev t = iv at *
   generalize a.eval x = xc at *
   generalize a.eval i = ic at *
   split at hs
   case h_2 => cases hs
   case h_1 k m cs =>
    rw [r2.int_inv]
    split at hs
    case isFalse => cases hs
    case isTrue hb =>
     split at hs <;> cases hs
     rename_i hr
     obtain ⟨ccs, rfl, hrr⟩ := r1.agg_inv
     obtain ⟨cv, g1, g2⟩ := readAt_agg (P := P) (w := w) hrr hk hr
     exact Ok.of_same hh (by simp [Instr.index, Sem.run_bind, asIntOf, run_underlying hu, hb, run_sizeOf' hk, g1]) g2
 ·cases hc
 ·cases hc
theorem sound_idxS {P : Program} {N c t a w h} (hh : HRel c w h) (ht : TRel N c t a) {ty : TypeId} {x i : Operand} {x' i' : Opd} (hc : cOp P N (.index ty x i) = some (.idxS x' i')) {v h'}
  (hs : opStep t h (.idxS x' i') = some (v, h')) : Ok P c w h (Instr.index ty (a.eval x) (a.eval i)) v h' := by
 simp only [cOp] at hc
 split at hc
 ·split at hc <;> cases hc
 ·rename_i x'' i'' hx hi hu
  cases hc
  have r1 := opd_rel ht hx
  have r2 := opd_rel ht hi
  simp only [opStep] at hs
  generalize x'.ev t = xv at *
  generalize i'.ev t = iv at *
  generalize a.eval x = xc at *
  generalize a.eval i = ic at *
  split at hs
  case h_2 => cases hs
  case h_1 k m l =>
   rw [r2.int_inv]
   split at hs
   case isFalse => cases hs
   case isTrue hb =>
    split at hs <;> cases hs
    rename_i u hl
    rw [r1.str_inv]
    refine Ok.of_same hh (cv := .int .u8 u.toNat) ?_ (.int ..)
    have hget : (ByteArray.mk l.toArray)[m.toNat]? = some u := by
     obtain ⟨hlt, rfl⟩ := List.getElem?_eq_some_iff.1 hl
     have hsz : m.toNat < (ByteArray.mk l.toArray).size := by simpa [ByteArray.size] using hlt
     rw [getElem?_pos (ByteArray.mk l.toArray) m.toNat hsz]
     rfl
    simp [Instr.index, Sem.run_bind, asIntOf, run_underlying hu, hb, hget]
 ·cases hc
theorem run_sliceBound {P : Program} {w : World} {k : IntKind} {n : Int} {y : Nat} (code) (h : 0 ≤ n ∧ n ≤ y) : (Instr.sliceBound (.int k n) y code).run P w = .ok n.toNat w := by
 simp [Instr.sliceBound, Sem.run_bind, asIntOf, h]
theorem run_boundsC {P : Program} {N c t a} {w : World} (ht : TRel N c t a) (isSlice : Bool) {len cap top : Nat} (hcap : top ≤ cap) {lo hi : Option Operand} (hlt : hi = none → len ≤ top) {lo' hi' : Option Opd} (hlo : cOpt N lo = some lo') (hhi : cOpt N hi = some hi') {l r : Nat}
  (hb : boundsC t top len lo' hi' = some (l, r)) : (Instr.sliceBounds isSlice len cap (lo.map a.eval) (hi.map a.eval) none).run P w = .ok (l, r, cap) w ∧ l ≤ r ∧ r ≤ top ∧
   ∀ (ik : IntKind) (m : Int), 0 ≤ m → m.toNat ≤ cap → top ≤ m.toNat → hi.isSome = true → (Instr.sliceBounds isSlice len cap (lo.map a.eval) (hi.map a.eval) (some (.int ik m))).run P w = .ok (l, r, m.toNat) w := by
 unfold boundsC at hb
 split at hb
 case h_1 => cases hb
 case h_2 r' hr =>
  split at hb
  case h_1 => cases hb
  case h_2 l' hl =>
   cases hb
   have h1 : (hi = none → r = len) ∧ (∀ x, hi = some x → ∀ cap', top ≤ cap' → ∀ code, (Instr.sliceBound (a.eval x) cap' code).run P w = .ok r w) ∧ r ≤ top := by
    cases hi with
    | none => simp [cOpt] at hhi; subst hhi; simp [bound1] at hr; subst hr; exact ⟨fun _ => rfl, (fun x h => by cases h), hlt rfl⟩
    | some x =>
     simp only [cOpt] at hhi
     cases hx : cOpd N x with
     | none => simp [hx] at hhi
     | some x' =>
      simp [hx] at hhi; subst hhi
      simp only [bound1] at hr
      have r1 := opd_rel ht hx
      generalize x'.ev t = xv at *
      split at hr
      case h_2 => cases hr
      case h_1 k n =>
       split at hr <;> cases hr
       refine ⟨(fun h => by cases h), fun y hy cap' hc' code => ?_, by omega⟩
       cases hy
       rw [r1.int_inv]; exact run_sliceBound _ (by omega)
   have h2 : (lo = none → l = 0) ∧ (∀ x, lo = some x → ∀ code, (Instr.sliceBound (a.eval x) r code).run P w = .ok l w) ∧ l ≤ r := by
    cases lo with
    | none => simp [cOpt] at hlo; subst hlo; simp [bound1] at hl; subst hl; exact ⟨fun _ => rfl, (fun x h => by cases h), Nat.zero_le _⟩
    | some x =>
     simp only [cOpt] at hlo
     cases hx : cOpd N x with
     | none => simp [hx] at hlo
     | some x' =>
      simp [hx] at hlo; subst hlo
      simp only [bound1] at hl
      have r1 := opd_rel ht hx
      generalize x'.ev t = xv at *
      split at hl
      case h_2 => cases hl
      case h_1 k n =>
       split at hl <;> cases hl
       refine ⟨(fun h => by cases h), fun y hy code => ?_, by omega⟩
       cases hy
       rw [r1.int_inv]; exact run_sliceBound _ (by omega)
   obtain ⟨a1, a2, a3⟩ := h1
   obtain ⟨b1, b2, b3⟩ := h2
   refine ⟨?_, b3, a3, fun ik m hm0 hmc hmt hs => ?_⟩
   ·cases hi with
    | none =>
     have e1 := a1 rfl
     subst e1
     cases lo with
     | none => have e2 := b1 rfl; subst e2; simp [Instr.sliceBounds, Sem.run_bind]
     | some y => simp [Instr.sliceBounds, Sem.run_bind, b2 y rfl]
    | some x =>
     cases lo with
     | none => have e2 := b1 rfl; subst e2; simp [Instr.sliceBounds, Sem.run_bind, a2 x rfl cap hcap]
     | some y => simp [Instr.sliceBounds, Sem.run_bind, a2 x rfl cap hcap, b2 y rfl]
   ·have hsb : ∀ code, (Instr.sliceBound (.int ik m) cap code).run P w = .ok m.toNat w := fun code => run_sliceBound _ (by omega)
    cases hi with
    | none => cases hs
    | some x =>
     cases lo with
     | none => have e2 := b1 rfl; subst e2; simp [Instr.sliceBounds, Sem.run_bind, hsb, a2 x rfl m.toNat hmt]
     | some y => simp [Instr.sliceBounds, Sem.run_bind, hsb, a2 x rfl m.toNat hmt, b2 y rfl]
theorem run_bounds {P : Program} {N c t a} {w : World} (ht : TRel N c t a) (isSlice : Bool) {len cap : Nat} (hcap : len ≤ cap) {lo hi : Option Operand} {lo' hi' : Option Opd} (hlo : cOpt N lo = some lo') (hhi : cOpt N hi = some hi') {l r : Nat}
  (hb : bounds t len lo' hi' = some (l, r)) : (Instr.sliceBounds isSlice len cap (lo.map a.eval) (hi.map a.eval) none).run P w = .ok (l, r, cap) w ∧ l ≤ r ∧ r ≤ len := by
 have := run_boundsC (P := P) (w := w) ht isSlice hcap (fun _ => Nat.le_refl len) hlo hhi (show boundsC t len len lo' hi' = some (l, r) from hb)
 exact ⟨this.1, this.2.1, this.2.2.1⟩
theorem str_extract (l : List UInt8) (a b : Nat) : (ByteArray.mk l.toArray).extract a b = ⟨((l.take b).drop a).toArray⟩ := by
 apply ByteArray.ext
 simp [ByteArray.data_extract, List.drop_take]
theorem sound_slcS {P : Program} {N c t a w h} (hh : HRel c w h) (ht : TRel N c t a) {ty : TypeId} (hu : P.underlying ty = some .string) {x : Operand} {x' : Opd} (hx : cOpd N x = some x') {lo hi : Option Operand} {lo' hi' : Option Opd} (hlo : cOpt N lo = some lo') (hhi : cOpt N hi = some hi') {v h'}
  (hs : opStep t h (.slcS x' lo' hi') = some (v, h')) : Ok P c w h (Instr.sliceAt ty (a.eval x) (lo.map a.eval) (hi.map a.eval) none) v h' := by
 have r1 := opd_rel ht hx
 simp only [opStep] at hs
 generalize x'.ev t = xv at *
 generalize a.eval x = xc at *
 split at hs
 case h_2 => cases hs
 case h_1 l =>
  split at hs <;> cases hs
  rename_i p q hb
  rw [r1.str_inv]
  obtain ⟨g1, g2, g3⟩ := run_bounds (P := P) (w := w) ht false (Nat.le_refl l.length) hlo hhi hb
  refine Ok.of_same hh (cv := .string ⟨((l.take q).drop p).toArray⟩) ?_ (.str ..)
  have hsz : (ByteArray.mk l.toArray).size = l.length := by simp [ByteArray.size]
  simp [Instr.sliceAt, Instr.slice, Sem.run_bind, run_underlying hu, hsz, g1, str_extract]
theorem sound_slc {P : Program} {N c t a w h} (hh : HRel c w h) (ht : TRel N c t a) {ty e : TypeId} (hu : P.underlying ty = some (.slice e)) {n b} (hk : cSize P e = some (n, b)) {x : Operand} {x' : Opd} (hx : cOpd N x = some x') {lo hi mx : Option Operand} {lo' hi' mx' : Option Opd} (hlo : cOpt N lo = some lo') (hhi : cOpt N hi = some hi') (hmx : cOpt N mx = some mx') {v h'}
  (hs : opStep t h (.slc x' lo' hi' mx' n) = some (v, h')) : Ok P c w h (Instr.sliceAt ty (a.eval x) (lo.map a.eval) (hi.map a.eval) (mx.map a.eval)) v h' := by
 have r1 := opd_rel ht hx
 have hdef : ∀ (l m p : Option Value), Instr.sliceAt ty (a.eval x) l m p = (do match ← underlying ty with
  | .array n elem =>
   let a' ← Instr.sureAddr (a.eval x)
   let (l, h, m) ← Instr.sliceBounds false n n l m p
   let size ← Go.sizeOf elem
   pure (.slice (some (if m = l then a' else a'.add (l * size))) (h - l) (m - l))
  | _ => Instr.slice ty (a.eval x) l m p) := fun _ _ _ => rfl
 have run : ∀ (l m p : Option Value), (Instr.sliceAt ty (a.eval x) l m p).run P w = (Instr.slice ty (a.eval x) l m p).run P w := by
  intro l m p
  rw [hdef]
  simp [Sem.run_bind, run_underlying hu]
 simp only [opStep] at hs
 generalize x'.ev t = xv at *
 generalize a.eval x = xc at *
 split at hs
 ·rename_i m'
  cases mx with
  | none => simp [cOpt] at hmx
  | some m =>
   have hmm : cOpd N m = some m' := by
    simp only [cOpt] at hmx; cases hy : cOpd N m with
    | none => simp [hy] at hmx
    | some y => simp [hy] at hmx; rw [hmx]
   have r2 := opd_rel ht hmm
   split at hs
   case h_2 => cases hs
   case h_1 id off len s k kk q hev =>
    rw [hev] at r2
    split at hs
    case isFalse => cases hs
    case isTrue hc =>
     obtain ⟨rfl, hq0, hql, his⟩ := hc
     split at hs <;> cases hs
     rename_i l r hb
     have hsm : hi.isSome = true := by
      cases hi with
      | none => simp [cOpt] at hhi; subst hhi; cases his
      | some _ => rfl
     have hr2 := r2.int_inv
     rcases r1.sl_inv with ⟨p, cap, o, hp, hn, hcap, ho, hto, hk', rfl⟩ | ⟨p, ad, hp, hn, rfl, rfl, rfl, rfl⟩
     ·obtain ⟨-, g2, g3, g4⟩ := run_boundsC (P := P) (w := w) ht true (cap := cap) (by omega) (fun h => by subst h; cases hsm) hlo hhi hb
      have g5 := g4 kk q hq0 (by omega) (Nat.le_refl _) hsm
      refine Ok.of_same hh (cv := .slice (if q.toNat = l then some ⟨p.block, o, none⟩ else (some ⟨p.block, o, none⟩ : Option Addr).map (·.add (l * s))) (r - l) (q.toNat - l)) ?_ ?_
      ·rw [run]; simp [Instr.slice, Sem.run_bind, run_underlying hu, hr2, g5, run_sizeOf' hk]
      ·by_cases hcl : q.toNat = l
       ·rw [if_pos hcl]
        exact .sl _ _ _ _ _ _ o _ p hp hn (by omega) (.inr (by omega)) (fun h => by omega) (fun x hx => by cases hx)
       ·rw [if_neg hcl]
        simp only [Option.map_some, Addr.add_mid]
        have ho' : o = p.base + off * s := by rcases ho with h | h; exact h; omega
        refine .sl _ _ _ _ _ _ (o + l * s) _ p hp hn (by omega) (.inl (by rw [ho', Nat.add_mul]; omega)) (fun _ => ?_) (fun x hx => by cases hx)
        have := hto (by omega)
        have e2 : q.toNat * s = l * s + (q.toNat - l) * s := by rw [← Nat.add_mul]; congr 1; omega
        have e3 : q.toNat * s ≤ cap * s := Nat.mul_le_mul_right s (by omega)
        rw [Nat.add_mul]; omega
     ·have hq : q = 0 := by omega
      subst hq
      obtain ⟨-, g2, g3, g4⟩ := run_boundsC (P := P) (w := w) ht true (cap := 0) (by simp) (fun h => by subst h; cases hsm) hlo hhi hb
      have g5 := g4 kk 0 (by omega) (by simp) (by simp) hsm
      simp at g3
      have hl0 : l = 0 := by omega
      have hr0 : r = 0 := by omega
      subst hl0; subst hr0
      refine Ok.of_same hh (cv := .slice ad 0 0) ?_ ?_
      ·rw [run]; simp [Instr.slice, Sem.run_bind, run_underlying hu, hr2, g5, run_sizeOf' hk]
      ·simp; exact .slnil _ _ _ p _ hp hn
 ·have hmx' : mx = none := by
   cases mx with
   | none => rfl
   | some y => simp only [cOpt] at hmx; cases hy : cOpd N y <;> simp [hy] at hmx
  subst hmx'
  have slc : ∀ (ad : Option Addr) (len cap l r : Nat), len ≤ cap → bounds t len lo' hi' = some (l, r) → l ≤ r → r ≤ len → (Instr.sliceAt ty (.slice ad len cap) (lo.map a.eval) (hi.map a.eval) none).run P w = .ok (.slice (if cap = l then ad else ad.map (·.add (l * n))) (r - l) (cap - l)) w := by
   intro ad len cap l r hc hb _ _
   have g1 := (run_bounds (P := P) (w := w) ht true hc hlo hhi hb).1
   simp [Instr.sliceAt, Instr.slice, Sem.run_bind, run_underlying hu, g1, run_sizeOf' hk]
  have hbd : ∀ len l r, bounds t len lo' hi' = some (l, r) → l ≤ r ∧ r ≤ len := fun len l r hb => (run_bounds (P := P) (w := w) ht true (Nat.le_refl len) hlo hhi hb).2
  split at hs
  ·rename_i es s
   split at hs
   case isFalse => cases hs
   case isTrue e0 =>
    subst e0
    split at hs <;> cases hs
    rename_i l r hb
    obtain ⟨q1, q2⟩ := hbd _ _ _ hb
    rcases r1.vs_inv with ⟨bl, o, cap, cs, f, hb', hl, hsz, hones, hc, hvv, rfl⟩ | ⟨ad, rfl, rfl⟩
    ·refine Ok.of_same hh (slc _ _ _ _ _ hl hb q1 q2) ?_
     have hlen : ((es.take r).drop l).length = r - l := by simp; omega
     rw [← hlen]
     by_cases hcl : cap = l
     ·have : (es.take r).drop l = [] := List.eq_nil_of_length_eq_zero (by omega)
      rw [this, if_pos hcl]
      have : cap - l = 0 := by omega
      rw [this]
      exact .vsnil ..
     ·rw [if_neg hcl]
      simp only [Option.map_some, Addr.add_mid]
      refine .vs _ _ _ bl (o + l * s) (cap - l) cs (fun i j => f (l + i) j) hb' (by omega) (fun i hi => ?_) (fun x hx => hones x (List.mem_of_mem_take (List.mem_of_mem_drop hx))) (fun i j hi hj => ?_) (fun i hi j hj => ?_)
      ·simp; exact hsz _ _
      ·rw [← hc (l + i) j (by omega) hj]; congr 1; rw [Nat.add_mul]; omega
      ·simp only [List.getElem_drop, List.getElem_take] at hj ⊢
       exact hvv (l + i) (by omega) j hj
    ·simp at q2
     have hl0 : l = 0 := by omega
     have hr0 : r = 0 := by omega
     subst hl0; subst hr0
     refine Ok.of_same hh (slc _ _ _ _ _ (Nat.le_refl _) hb (Nat.le_refl _) (Nat.le_refl _)) ?_
     simp
     exact .vsnil ..
  ·rename_i id off len s k
   split at hs
   case isFalse => cases hs
   case isTrue e0 =>
    subst e0
    split at hs <;> cases hs
    rename_i l r hb
    rcases r1.sl_inv with ⟨p, cap, o, hp, hn, hcap, ho, hto, hk', rfl⟩ | ⟨p, ad, hp, hn, rfl, rfl, rfl, rfl⟩
    ·have htop : len ≤ k.getD len ∧ k.getD len ≤ cap := by
      cases k with
      | none => exact ⟨Nat.le_refl _, hcap⟩
      | some y => have := hk' y rfl; subst this; exact ⟨hcap, Nat.le_refl _⟩
     obtain ⟨g1, q1, q2, -⟩ := run_boundsC (P := P) (w := w) ht true htop.2 (fun _ => htop.1) hlo hhi hb
     refine Ok.of_same hh (cv := .slice (if cap = l then some ⟨p.block, o, none⟩ else (some ⟨p.block, o, none⟩ : Option Addr).map (·.add (l * s))) (r - l) (cap - l)) (by simp [Instr.sliceAt, Instr.slice, Sem.run_bind, run_underlying hu, g1, run_sizeOf' hk]) ?_
     have hkk : ∀ x, k.map (· - l) = some x → x = cap - l := by
      intro x hx
      cases k with
      | none => simp at hx
      | some y => have := hk' y rfl; simp at hx; omega
     by_cases hcl : cap = l
     ·rw [if_pos hcl]
      exact .sl _ _ _ _ _ _ o _ p hp hn (by omega) (.inr (by omega)) (fun h => by omega) hkk
     ·rw [if_neg hcl]
      simp only [Option.map_some, Addr.add_mid]
      have ho' : o = p.base + off * s := by rcases ho with h | h; exact h; omega
      refine .sl _ _ _ _ _ _ (o + l * s) _ p hp hn (by omega) (.inl (by rw [ho', Nat.add_mul]; omega)) (fun _ => ?_) hkk
      have := hto (by omega)
      have e2 : cap * s = l * s + (cap - l) * s := by rw [← Nat.add_mul]; congr 1; omega
      rw [Nat.add_mul]; omega
    ·have hb' : bounds t 0 lo' hi' = some (l, r) := hb
     obtain ⟨q1, q2⟩ := hbd _ _ _ hb'
     have hl0 : l = 0 := by omega
     have hr0 : r = 0 := by omega
     subst hl0; subst hr0
     refine Ok.of_same hh (slc _ _ _ _ _ (Nat.le_refl _) hb' (Nat.le_refl _) (Nat.le_refl _)) ?_
     simp
     exact .slnil _ _ _ p _ hp hn
  ·split at hs <;> cases hs
   rename_i lr hb
   obtain ⟨l, r⟩ := lr
   obtain ⟨q1, q2⟩ := hbd _ _ _ hb
   have hl0 : l = 0 := by omega
   have hr0 : r = 0 := by omega
   subst hl0; subst hr0
   rw [r1.nils_inv] at *
   refine Ok.of_same hh (slc _ _ _ _ _ (Nat.le_refl _) hb (Nat.le_refl _) (Nat.le_refl _)) ?_
   simp
   exact .nils ..
  ·cases hs
end Sx
namespace Sx
open Go
set_option linter.unusedSimpArgs false
set_option linter.unusedVariables false
theorem foldl_push : ∀ (ns : List Int) (r : ByteArray), ns.foldl (fun r n => r.push (UInt8.ofNat n.toNat)) r = ⟨r.data ++ (ns.map fun n => UInt8.ofNat n.toNat).toArray⟩
 | [], r => by simp
 | n :: ns, r => by
  simp only [List.foldl_cons]
  rw [foldl_push ns]
  simp [ByteArray.push]
theorem bytesOf_spec : ∀ {es : List (List V)} {l : List UInt8}, bytesOf es = some l → ∃ ns : List Int, es = ns.map (fun n => [.int .u8 n]) ∧ l = ns.map fun n => UInt8.ofNat n.toNat
 | [], l, h => by simp [bytesOf] at h; subst h; exact ⟨[], rfl, rfl⟩
 | [.int .u8 n] :: r, l, h => by
  simp only [bytesOf] at h
  cases hr : bytesOf r with
  | none => simp [hr] at h
  | some l' =>
   simp [hr] at h; subst h
   obtain ⟨ns, rfl, rfl⟩ := bytesOf_spec hr
   exact ⟨n :: ns, rfl, rfl⟩
 | [] :: r, l, h => by simp [bytesOf] at h
 | (_ :: _ :: _) :: r, l, h => by simp [bytesOf] at h
 | [.int .i8 _] :: r, l, h | [.int .i16 _] :: r, l, h | [.int .i32 _] :: r, l, h | [.int .i64 _] :: r, l, h | [.int .u16 _] :: r, l, h | [.int .u32 _] :: r, l, h | [.int .u64 _] :: r, l, h => by simp [bytesOf] at h
 | [.bool _] :: r, l, h | [.str _] :: r, l, h | [.nilp] :: r, l, h | [.nils] :: r, l, h | [.nilf] :: r, l, h | [.nilm] :: r, l, h | [.zs] :: r, l, h | [.ptr ..] :: r, l, h | [.eptr ..] :: r, l, h | [.rptr ..] :: r, l, h
 | [.sl ..] :: r, l, h | [.vs ..] :: r, l, h | [.mp _] :: r, l, h | [.fn ..] :: r, l, h | [.agg _] :: r, l, h | [.tup _] :: r, l, h | [.any] :: r, l, h | [.bad] :: r, l, h => by simp [bytesOf] at h
theorem sound_b2s {P : Program} {c w h} (hh : HRel c w h) {s d e : TypeId} (hs : P.underlying s = some (.slice e)) (he : P.underlying e = some (.int .u8)) (hd : P.underlying d = some .string) {xv : V} {xc : Value} (hx : VRel c.ro c.m xv xc)
  {es l} (h1 : elemsOf h 1 xv = some es) (h2 : bytesOf es = some l) : Ok P c w h (convert s d xc) (.str l) h := by
 obtain ⟨news, a, cap, n1, n2, rfl, n3, n4⟩ := elemsOf_flat hh hx h1
 obtain ⟨ns, rfl, rfl⟩ := bytesOf_spec h2
 have hnews : news = ns.map (Value.int .u8) := by
  refine List.ext_getElem (by simpa using n1) fun i a b => ?_
  have hi : i < ns.length := by simpa using b
  obtain ⟨x, hx, hv⟩ := n2.rel i (by simpa using hi) 0 (by simp)
  simp only [Nat.mul_one, Nat.add_zero, List.getElem?_eq_getElem a] at hx
  cases hx
  simp only [List.getElem_map, List.getElem_cons_zero] at hv ⊢
  exact hv.int_inv
 refine Ok.of_same hh (cv := .string ⟨(ns.map fun n => UInt8.ofNat n.toNat).toArray⟩) ?_ (.str ..)
 rw [run_convert_bytes_string w s d e a _ cap hs he hd]
 simp only [List.length_map] at n4 ⊢
 cases a with
 | none =>
  rcases n4 with h0 | ⟨b, o, hb, _⟩
  ·have : ns = [] := List.eq_nil_of_length_eq_zero h0
   subst this; rfl
  ·cases hb
 | some ad =>
  have hload : (loadCells ad ns.length).run P w = .ok (ns.map (Value.int .u8)).toArray w := by
   have := run_loadCells_list (P := P) w ad news (fun j v hj => by
    rcases n4 with h0 | ⟨b, o, hb, hc⟩
    ·rw [hnews] at hj
     have : ns = [] := List.eq_nil_of_length_eq_zero h0
     subst this; simp at hj
    ·cases hb; rw [Addr.add_mid]; exact hc j v hj)
   rw [hnews] at this
   simpa using this
  rw [run_bytesToString w ad ns.length cap ns hload, foldl_push]
  simp [ByteArray.empty, ByteArray.emptyWithCapacity]
  try rfl
theorem chunk_length (sz : Nat) : ∀ (n : Nat) (l : List V), (chunk sz n l).length = n
 | 0, _ => rfl
 | n + 1, l => by simp [chunk, chunk_length sz n]
theorem chunk_get (sz : Nat) : ∀ (n : Nat) (l : List V) (i : Nat) (h : i < (chunk sz n l).length), (chunk sz n l)[i] = (l.drop (i * sz)).take sz
 | n + 1, l, 0, _ => by simp [chunk]
 | n + 1, l, i + 1, h => by
  simp only [chunk, List.getElem_cons_succ]
  rw [chunk_get sz n (l.drop sz) i, List.drop_drop]
  congr 2; rw [Nat.succ_mul]; omega
theorem sound_slcA {P : Program} {N c t a w h} (hh : HRel c w h) (ht : TRel N c t a) {ty e : TypeId} {n sz b} (hu : P.underlying ty = some (.array n e)) (hk : cSize P e = some (sz, b)) {x : Operand} {x' : Opd} (hx : cOpd N x = some x') {lo hi : Option Operand} {lo' hi' : Option Opd} (hlo : cOpt N lo = some lo') (hhi : cOpt N hi = some hi') {v h'}
  (hs : opStep t h (.slcA x' lo' hi' n sz) = some (v, h')) : Ok P c w h (Instr.sliceAt ty (a.eval x) (lo.map a.eval) (hi.map a.eval) none) v h' := by
 have r1 := opd_rel ht hx
 simp only [opStep] at hs
 generalize x'.ev t = xv at *
 generalize a.eval x = xc at *
 split at hs
 case h_2 => cases hs
 case h_1 id =>
  split at hs
  case h_2 => cases hs
  case h_1 l r hb =>
   split at hs
   case h_2 => cases hs
   case h_1 cs hid =>
    split at hs
    case isFalse => cases hs
    case isTrue hc =>
     obtain ⟨hl, hpure, hones⟩ := hc
     cases hs
     obtain ⟨p, hp, hn, rfl⟩ := r1.ptr_inv
     obtain ⟨g1, g2, g3⟩ := run_bounds (P := P) (w := w) ht false (Nat.le_refl n) hlo hhi hb
     obtain ⟨p', cc, e', fr, hp', _, hw, h1, h2, h3, h4, h5⟩ := row_cells hh hid
     rw [hp] at hp'; cases hp'
     obtain ⟨s1, s2⟩ := hh.change (w' := w) id _ (.arr (chunk sz n cs) sz) p hid trivial hp hn rfl (fun _ _ => rfl) rfl rfl rfl (by
      refine ⟨fun h => (by rw [hn] at h; cases h), ?_, ?_, fun _ => ⟨cc, ⟨hn, h1, h2, e', fr, hw, h5⟩, by rw [chunk_length]; omega, ?_⟩⟩
      ·intro x hx
       obtain ⟨i, hi, rfl⟩ := List.getElem_of_mem hx
       rw [chunk_get]; exact ones_take _ (ones_drop _ hones)
      ·intro i hi
       rw [chunk_get]
       rw [chunk_length] at hi
       have := mul_step (s := sz) hi
       simp; omega
      ·intro i hi j hj
       rw [chunk_length] at hi
       have hms := mul_step (s := sz) hi
       simp only [chunk_get] at hj ⊢
       have hj' : j < sz := by simp at hj; omega
       obtain ⟨x, hx, hv⟩ := h4 (i * sz + j) (by omega)
       refine ⟨x, by rw [← hx]; congr 1; omega, ?_⟩
       have := pure_rel (pures_get hpure (i * sz + j) (by omega)) hv
       simpa using this)
     refine ⟨.slice (some (if n = l then ⟨p.block, p.base + 0, none⟩ else ⟨p.block, p.base + 0 + l * sz, none⟩)) (r - l) (n - l), w, c, ?_, ?_, s1, s2⟩
     ·simp [Instr.sliceAt, Sem.run_bind, run_underlying hu, Instr.sureAddr, g1, run_sizeOf' hk, Addr.add_mid]
     ·by_cases hnl : n = l
      ·rw [if_pos hnl]
       exact .sl _ _ _ _ _ _ _ _ p hp hn (by omega) (.inr (by omega)) (fun h => by omega) (fun x hx => by cases hx; rfl)
      ·rw [if_neg hnl]
       refine .sl _ _ _ _ _ _ _ _ p hp hn (by omega) (.inl (by omega)) (fun _ => ?_) (fun x hx => by cases hx; rfl)
       have e2 : n * sz = l * sz + (n - l) * sz := by rw [← Nat.add_mul]; congr 1; omega
       omega
theorem mm_run {P : Program} {w : World} (mx : Bool) (k : IntKind) {ro m} : ∀ (vs : List V) (cs : List Value) (a : Int) {r : Int}, vs.length = cs.length → (∀ i (h : i < vs.length) (h' : i < cs.length), VRel ro m vs[i] cs[i]) → mmGo mx k a vs = some r →
  (cs.foldlM (if mx then Builtin.max2 else Builtin.min2) (Value.int k a)).run P w = .ok (.int k r) w
 | [], cs, a, r, hl, _, h => by
  have : cs = [] := List.eq_nil_of_length_eq_zero hl.symm
  subst this
  simp [mmGo] at h; subst h; rfl
 | v :: vs, [], a, r, hl, _, h => by simp at hl
 | v :: vs, cv :: cs, a, r, hl, hv, h => by
  cases v <;> simp only [mmGo] at h <;> try (cases h; done)
  rename_i k' b
  split at h
  case isFalse => cases h
  case isTrue e =>
   subst e
   have h0 := hv 0 (by simp) (by simp)
   simp only [List.getElem_cons_zero] at h0
   rw [h0.int_inv]
   have ih := mm_run (P := P) (w := w) mx k vs cs _ (by simpa using hl) (fun i a b => by
    have := hv (i + 1) (by simpa using a) (by simpa using b)
    rw [List.getElem_cons_succ, List.getElem_cons_succ] at this
    exact this) h
   cases mx
   ·simp only [Bool.false_eq_true, if_false] at ih ⊢
    simp only [List.foldlM_cons, Sem.run_bind, Builtin.min2, Sem.run_pure, Result.andThen_ok]
    exact ih
   ·simp only [if_true] at ih ⊢
    simp only [List.foldlM_cons, Sem.run_bind, Builtin.max2, Sem.run_pure, Result.andThen_ok]
    rw [show (if b > a then b else a) = (if a < b then b else a) from rfl]
    exact ih
theorem sound_mm {P : Program} {c w h} (hh : HRel c w h) (mx : Bool) {vs : List V} {cs : Array Value} (hr : VRels c.ro c.m vs cs) {v : V} (hs : aMM mx vs = some v) (ts ty) :
  Ok P c w h (if mx then Builtin.max_ ts ty cs else Builtin.min_ ts ty cs) v h := by
 cases vs with
 | nil => simp [aMM] at hs
 | cons v0 vs =>
  cases v0 <;> simp only [aMM] at hs <;> try (cases hs; done)
  rename_i k a
  cases hm : mmGo mx k a vs with
  | none => simp [hm] at hs
  | some r =>
   simp [hm] at hs; subst hs
   have hl := hr.1
   obtain ⟨cl⟩ := cs
   cases cl with
   | nil => simp at hl
   | cons c0 cl =>
    have h0 := hr.2 0 (by simp) (by simp)
    simp only [List.getElem_cons_zero] at h0
    have hc0 : c0 = .int k a := h0.int_inv
    subst hc0
    have := mm_run (P := P) (w := w) mx k vs cl a (by simpa using hl) (fun i a b => by
     have := hr.2 (i + 1) (by simpa using a) (by simpa using b)
     rw [List.getElem_cons_succ] at this
     exact this) hm
    refine Ok.of_same hh (cv := .int k r) ?_ (.int ..)
    cases mx
    ·exact this
    ·exact this
end Sx
namespace Sx
open Go
theorem any_ty {h : List O} {p : O → Bool} (ha : h.any p = true) : ∃ (i : Nat) (o : O), h[i]? = some o ∧ p o = true := by
 obtain ⟨o, ho, hp⟩ := List.any_eq_true.1 ha
 obtain ⟨i, hi⟩ := List.mem_iff_getElem?.1 ho
 exact ⟨i, o, hi, hp⟩
theorem hasTy_spec {c w h id ty} (hh : HRel c w h) (ha : hasTy h id ty = true) : ∃ q, c.m id = some q ∧ (q.null = false → q.ty = ty ∧ q.base = 0) := by
 obtain ⟨i, o, hi, hp⟩ := any_ty ha
 cases o with
 | ty j t n =>
  simp only [Bool.and_eq_true, beq_iff_eq] at hp
  obtain ⟨rfl, rfl⟩ := hp
  obtain ⟨p, _, ⟨_, q, h1, h2⟩, _⟩ := hh.obj i _ hi trivial
  exact ⟨q, h1, fun hn => ⟨(h2 hn).1, (h2 hn).2.1⟩⟩
 | _ => simp at hp
theorem hasTyN_spec {c w h id ty n} (hh : HRel c w h) (ha : hasTyN h id ty n = true) : ∃ q, c.m id = some q ∧ (q.null = false → q.ty = ty ∧ q.base = 0 ∧ q.top = n) := by
 obtain ⟨i, o, hi, hp⟩ := any_ty ha
 cases o with
 | ty j t k =>
  simp only [Bool.and_eq_true, beq_iff_eq] at hp
  obtain ⟨⟨rfl, rfl⟩, rfl⟩ := hp
  obtain ⟨p, _, ⟨_, q, h1, h2⟩, _⟩ := hh.obj i _ hi trivial
  exact ⟨q, h1, fun hn => ⟨(h2 hn).1, (h2 hn).2.1, (h2 hn).2.2 n rfl⟩⟩
 | _ => simp at hp
theorem ghost_ok {c : Ctx} {w : World} {h : List O} (hh : HRel c w h) {id : Nat} {q : Place} {ty : TypeId} {n : Option Nat} (hq : c.m id = some q) (hp : q.null = false → q.ty = ty ∧ q.base = 0 ∧ ∀ k, n = some k → q.top = k) :
  ∃ c', HRel c' w (h ++ [.ty id ty n]) ∧ Adv c w h c' w (h ++ [.ty id ty n]) := by
 obtain ⟨h1, h2⟩ := hh.move (w' := w) (h' := h) (.ty id ty n) ⟨0, 0, 0, true, 0⟩ rfl (fun _ _ h _ => h) (fun h => by cases h) (Nat.le_refl _) (fun _ _ _ => rfl) rfl rfl rfl
  (fun m' hm => ⟨rfl, q, hm _ _ hq, hp⟩)
 exact ⟨_, h1, h2⟩
theorem sound_allocT {P : Program} {c w h} (hh : HRel c w h) (e : TypeId) {l : List V} (hz : cZero P e = some l) :
  Ok P c w h (Instr.alloc e true (.tuple #[])) (.ptr h.length 0) (h ++ [.row l] ++ [.ty h.length e (some l.length)]) := by
 obtain ⟨i, z, hi, hz, h1, h2, h3⟩ := cZero_spec hz
 obtain ⟨w', c', g1, g2, g3, g4⟩ := newRow_ok (P := P) hh e z.cells (.row l) (fun m' hm w' hw => row_of_cells (h3 _ _) e _ m' hm w' hw)
 obtain ⟨c2, k1, k2⟩ := ghost_ok g3 (ty := e) (n := some l.length) g2 (fun _ => ⟨rfl, rfl, fun k hk => by cases hk; simp only; omega⟩)
 refine ⟨.pointer (some ⟨w.heap.size, 0, none⟩), w', c2, ?_, ?_, k1, g4.trans hh k2⟩
 ·simp only [Instr.alloc, Sem.run_bind, run_zeroValue hi hz, Result.andThen_ok, newVar, g1]; rfl
 ·exact (VRel.ptr _ _ _ ⟨w.heap.size, 0, z.cells.size, false, e⟩ (k2.m _ _ g2) rfl)
theorem sound_boxT {P : Program} {c w h} (hh : HRel c w h) (e : TypeId) {n : Nat} {v : V} {cv : Value} (hv : VRel c.ro c.m v cv) (hc : v.celled = true) (hn : v.cells.length = n) :
  Ok P c w h (Instr.box e cv) (.ptr h.length 0) (h ++ [.row v.cells] ++ [.ty h.length e (some n)]) := by
 obtain ⟨hr, _⟩ := cells_rel hv hc
 obtain ⟨w', c', h1, h2, h3, h4⟩ := newRow_ok (P := P) hh e cv.cells (.row v.cells) (fun m' hm w' hw => row_of_cells hr e _ m' hm w' hw)
 obtain ⟨c2, k1, k2⟩ := ghost_ok h3 (ty := e) (n := some n) h2 (fun _ => ⟨rfl, rfl, fun k hk => by cases hk; simp only; rw [← hr.1]; exact hn⟩)
 refine ⟨.pointer (some ⟨w.heap.size, 0, none⟩), w', c2, ?_, ?_, k1, h4.trans hh k2⟩
 ·simp only [Instr.box, newVar, Sem.run_bind, h1, Result.andThen_ok]; rfl
 ·exact (VRel.ptr _ _ _ ⟨w.heap.size, 0, cv.cells.size, false, e⟩ (k2.m _ _ h2) rfl)
theorem shape_of_heap {w : World} {b : Nat} {cc : Array Value} {e fr} (h : w.heap[b]? = some (.cells cc e fr)) : w.shape? b = some (e, cc.size) := by
 simp [World.shape?, h]
theorem sound_cvU {P : Program} {c w h} (hh : HRel c w h) {s d t : TypeId} {j : TypeInfo} (hs : P.underlying s = some (.pointer t)) (hd : P.underlying d = some .unsafePointer) (ht : P.info? t = some j) (hj : j.size ≠ 0)
  {id o : Nat} {xc : Value} (hx : VRel c.ro c.m (.ptr id o) xc) {cs : List V} (hid : h[id]? = some (.row cs)) (ho : o < cs.length) : Ok P c w h (convert s d xc) (.ptr id o) h := by
 obtain ⟨p, cc, e, fr, h1, h2, h3, h4, h5, h6, _, _⟩ := row_cells hh hid
 obtain ⟨q, g1, g2, rfl⟩ := hx.ptr_inv
 rw [h1] at g1; cases g1
 exact Ok.of_same hh (Lib.run_to_unsafe w _ hs hd ht hj (shape_of_heap h3) (by simp only; omega)) hx
theorem sound_cvP {P : Program} {c w h} (hh : HRel c w h) {s d u : TypeId} {j : TypeInfo} (hs : P.underlying s = some .unsafePointer) (hd : P.underlying d = some (.pointer u)) (hu : P.info? u = some j)
  {id : Nat} {xc : Value} (hx : VRel c.ro c.m (.ptr id 0) xc) {cs : List V} (hid : h[id]? = some (.row cs)) (hty0 : (liesTbl P u).any (fun e => hasTyN h id e.1 e.2) = true) :
  Ok P c w h (convert s d xc) (.ptr id 0) h := by
 obtain ⟨⟨ty, n⟩, hmem, hty⟩ := List.any_eq_true.1 hty0
 simp only [liesTbl, List.mem_filterMap] at hmem
 obtain ⟨ty', _, hl⟩ := hmem
 unfold lies1 at hl
 split at hl
 case h_2 => cases hl
 case h_1 i hi =>
 split at hl <;> cases hl
 rename_i hlies
 simp only [Bool.and_eq_true] at hlies
 replace hlies := hlies.2
 obtain ⟨p, cc, e, fr, h1, h2, h3, h4, h5, h6, _, _⟩ := row_cells hh hid
 obtain ⟨q, g1, g2, rfl⟩ := hx.ptr_inv
 rw [h1] at g1; cases g1
 obtain ⟨q, g1, g3⟩ := hasTyN_spec hh hty
 rw [h1] at g1; cases g1
 obtain ⟨k1, k2, k3⟩ := g3 h2
 have hsh := shape_of_heap h3
 rw [e.2, k1, h4, k3] at hsh
 exact Ok.of_same hh (Lib.run_from_unsafe w _ hs hd hu hsh (by simpa [k2] using hlies)) hx
theorem noEsc_run {P : Program} {f : FuncId} (h : isNoEsc P (.func f) = true) (x : Value) (w : World) : (callFunc f #[x]).run P w = .ok (.value x) w := by
 unfold isNoEsc at h
 simp only at h
 split at h
 ·rename_i fn hf
  simp only [Bool.and_eq_true, beq_iff_eq] at h
  obtain ⟨⟨h1, h2⟩, h3⟩ := h
  have a1 : Extern.allNextRows.lookup "internal/abi.NoEscape" = none := by kernel_rfl
  have a2 : Extern.allNextRows.lookup "" = none := by kernel_rfl
  have a3 : Extern.allGenericRows.lookup "internal/abi.NoEscape" = none := by kernel_rfl
  have a4 : Extern.allTypedRows.lookup "internal/abi.NoEscape" = none := by kernel_rfl
  have e1 : Extern.findNext fn = none := by unfold Extern.findNext; rw [h1, h2]; simp only [a1, a2]; rfl
  have e2 : Extern.find fn = some Extern.AbiNoEscape.same := by unfold Extern.find; rw [h1]; simp only [a3, a4]; rfl
  have e3 : (fn.name == "runtime.NumGoroutine") = false := by rw [h1]; decide
  rw [run_callFunc_extern hf e3 h3 e1 e2, Lib.run_noEscape]; rfl
 ·cases h
theorem sound_usd {P : Program} {c w h} (hh : HRel c w h) {ts ty} {id off len sz : Nat} {k : Option Nat} {xc : Value} (hx : VRel c.ro c.m (.sl id off len sz k) xc) (h1 : sz = 1) (h2 : 0 < len) :
  Ok P c w h (Builtin.unsafeSliceData_ ts ty #[xc]) (.ptr id off) h := by
 subst h1
 rcases hx.sl_inv with ⟨p, cap, o, hp, hn, hcap, ho, hto, hk, rfl⟩ | ⟨p, a, hp, hn, rfl, rfl, rfl, rfl⟩
 ·have ho' : o = p.base + off := by rcases ho with h | h <;> omega
  subst ho'
  exact Ok.of_same hh (Lib.run_unsafeSliceData_row _ _ _ _ _ _ (by omega)) (.ptr _ _ _ p hp hn)
 ·omega
theorem byteOk_spec : ∀ {es : List (List V)} {l : List UInt8}, byteOk es = true → bytesOf es = some l → es = byteEls l
 | [], l, _, h => by simp [bytesOf] at h; subst h; rfl
 | [.int .u8 n] :: r, l, h1, h2 => by
  simp only [byteOk, Bool.and_eq_true, decide_eq_true_eq] at h1
  simp only [bytesOf] at h2
  cases hr : bytesOf r with
  | none => simp [hr] at h2
  | some l' =>
   simp [hr] at h2; subst h2
   rw [byteOk_spec h1.2 hr]
   have : n = ((UInt8.ofNat n.toNat).toNat : Int) := by
    rw [UInt8.toNat_ofNat', Nat.mod_eq_of_lt (by omega)]; omega
   simp only [byteEls, List.map_cons]; rw [← this]
 | [] :: _, _, h, _ => by simp [byteOk] at h
 | (_ :: _ :: _) :: _, _, h, _ => by simp [byteOk] at h
 | [.bool _] :: _, _, h, _ => by simp [byteOk] at h
 | [.str _] :: _, _, h, _ => by simp [byteOk] at h
 | [.nilp] :: _, _, h, _ => by simp [byteOk] at h
 | [.nils] :: _, _, h, _ => by simp [byteOk] at h
 | [.nilf] :: _, _, h, _ => by simp [byteOk] at h
 | [.nilm] :: _, _, h, _ => by simp [byteOk] at h
 | [.ptr ..] :: _, _, h, _ => by simp [byteOk] at h
 | [.eptr ..] :: _, _, h, _ => by simp [byteOk] at h
 | [.rptr ..] :: _, _, h, _ => by simp [byteOk] at h
 | [.sl ..] :: _, _, h, _ => by simp [byteOk] at h
 | [.vs ..] :: _, _, h, _ => by simp [byteOk] at h
 | [.zs] :: _, _, h, _ => by simp [byteOk] at h
 | [.mp _] :: _, _, h, _ => by simp [byteOk] at h
 | [.fn ..] :: _, _, h, _ => by simp [byteOk] at h
 | [.agg _] :: _, _, h, _ => by simp [byteOk] at h
 | [.tup _] :: _, _, h, _ => by simp [byteOk] at h
 | [.any] :: _, _, h, _ => by simp [byteOk] at h
 | [.bad] :: _, _, h, _ => by simp [byteOk] at h
 | [.int .i8 _] :: _, _, h, _ | [.int .i16 _] :: _, _, h, _ | [.int .i32 _] :: _, _, h, _ | [.int .i64 _] :: _, _, h, _ | [.int .u16 _] :: _, _, h, _ | [.int .u32 _] :: _, _, h, _ | [.int .u64 _] :: _, _, h, _ => by simp [byteOk] at h
theorem freeze_heap {w : World} {b n : Nat} : ∀ k, k ≠ b → (w.freeze ⟨b, 0, none⟩ n).heap[k]? = w.heap[k]? := by
 intro k hk
 unfold World.freeze
 split
 ·rfl
 ·simp only [Array.getElem?_modify]; rw [if_neg (Ne.symm hk)]
theorem freeze_rest (w : World) (b n : Nat) : (w.freeze ⟨b, 0, none⟩ n).heap.size = w.heap.size ∧ (w.freeze ⟨b, 0, none⟩ n).os = w.os ∧ (w.freeze ⟨b, 0, none⟩ n).output = w.output ∧ (w.freeze ⟨b, 0, none⟩ n).tape = w.tape := by
 unfold World.freeze
 split
 ·exact ⟨rfl, rfl, rfl, rfl⟩
 ·exact ⟨by simp, rfl, rfl, rfl⟩
theorem byteEls_get {l : List UInt8} {i : Nat} (h : i < l.length) (h' : i < (byteEls l).length) : (byteEls l)[i] = [.int .u8 l[i].toNat] := by simp [byteEls]
theorem sound_ustr {P : Program} {c w h} (hh : HRel c w h) {pt it ty e : TypeId} (hp : P.underlying pt = some (.pointer e)) (hc : P.cellsOf e = 1) {id : Nat} {m : Int} {xc yc : Value} (hx : VRel c.ro c.m (.ptr id 0) xc) (hy : VRel c.ro c.m (.int .i64 m) yc)
  {es : List (List V)} (hid : h[id]? = some (.arr es 1)) (hty : hasTy h id e = true) (h0 : 0 < m) (h63 : m ≤ 9223372036854775807) (hm : m.toNat ≤ es.length) (hok : byteOk (es.take m.toNat) = true) {l : List UInt8} (hl : bytesOf (es.take m.toNat) = some l) :
  Ok P c w h (Builtin.unsafeString_ #[pt, it] ty #[xc, yc]) (.str l) (h.set id .gone) := by
 obtain ⟨p, h1, h2, rfl⟩ := hx.ptr_inv
 have hes := byteOk_spec hok hl
 have hlen : l.length = m.toNat := by
  have := congrArg List.length hes
  simp [byteEls] at this; omega
 obtain ⟨cc, e', fr, hw, q1, q2, q3, q4, q5, q6, q7⟩ := arr_cells hh hid h1 h2
 obtain ⟨q, g1, g2⟩ := hasTy_spec hh hty
 rw [h1] at g1; cases g1
 obtain ⟨k1, k2⟩ := g2 h2
 have hsh := shape_of_heap hw
 rw [e'.2, k1] at hsh
 have hy' : yc = .int .i64 l.length := by rw [hy.int_inv, hlen]; congr 1; omega
 have hcell : ∀ j x, l[j]? = some x → w.cell? ((⟨p.block, 0, none⟩ : Addr).add j) = some (.int .u8 x.toNat) := by
  intro j x hj
  obtain ⟨hjl, rfl⟩ := List.getElem?_eq_some_iff.1 hj
  have hj1 : j < es.length := by omega
  have e1 : es[j] = [.int .u8 l[j].toNat] := by
   have e2 : (es.take m.toNat)[j]'(by simp; omega) = (byteEls l)[j]'(by simp [byteEls]; exact hjl) := by simp only [hes]
   rw [List.getElem_take, byteEls_get hjl] at e2
   exact e2
  have hj0 : 0 < es[j].length := by rw [e1]; exact Nat.one_pos
  obtain ⟨u, hu, hv⟩ := q6 j hj1 0 hj0
  have e3 : es[j][0] = V.int .u8 l[j].toNat := by simp only [e1, List.getElem_cons_zero]
  rw [e3] at hv
  rw [hv.int_inv] at hu
  have : (⟨p.block, 0, none⟩ : Addr).add j = ⟨p.block, j, none⟩ := by rw [Addr.add_mid, Nat.zero_add]
  rw [this, cell_of_heap hw, ← hu, k2]
  congr 1; omega
 have hl0 : l ≠ [] := by intro h; rw [h] at hlen; simp at hlen; omega
 have hrun := Lib.run_unsafeString_row (P := P) (w := w) pt it ty e hp hc p.block cc.size hsh l hl0 (by omega) (by omega) hcell
 obtain ⟨r1, r2, r3, r4⟩ := freeze_rest w p.block l.length
 obtain ⟨s1, s2⟩ := hh.change (w' := w.freeze ⟨p.block, 0, none⟩ l.length) id _ .gone p hid trivial h1 h2 r1 (fun b hb => freeze_heap b hb) r2 r3 r4 trivial
 refine ⟨_, _, c, ?_, .str _ _, s1, s2⟩
 rw [hy', k2]
 exact hrun
theorem sound_appendB {P : Program} {c w h} (hh : HRel c w h) {t u ty e : TypeId} {bytes : Nat} {z : List V} (hel : cElem P t = some (1, z, bytes)) (hbp : 0 < bytes) (hu : P.underlying u = some .string) (hte : P.underlying t = some (.slice e))
  {xv yv : V} {xc yc : Value} (hx : VRel c.ro c.m xv xc) (hy : VRel c.ro c.m yv yc) (hok : okTy h e xv = true) {v h'} (hs : appendV h xv yv 1 bytes true = some (v, h')) :
  Ok P c w h (Builtin.append_ #[t, u] ty #[xc, yc]) v (h' ++ [.ty h.length e none]) := by
 obtain ⟨cv, w', c', h1, h2, h3, h4, q, e', k1, k2, k3⟩ := sound_appendX (P := P) (ty := ty) hh hel hbp (.inl ⟨rfl, hu, rfl⟩) hx hy hs
 rw [hte] at k2; cases k2
 obtain ⟨c2, g1, g2⟩ := ghost_ok h3 (ty := e) (n := none) k1 (fun hn => by
  rcases k3 hn with ⟨a, b⟩ | ⟨id, off, len, s, k, p, rfl, hp, hpn, hq1, hq2⟩
  ·exact ⟨a, b, fun k hk => by cases hk⟩
  ·simp only [okTy, Bool.and_eq_true, beq_iff_eq] at hok
   obtain ⟨rfl, hty⟩ := hok
   obtain ⟨q', j1, j2⟩ := hasTy_spec hh hty
   rw [hp] at j1; cases j1
   obtain ⟨j3, j4⟩ := j2 hpn
   exact ⟨by rw [hq1, j3], by rw [hq2, j4]; omega, fun k hk => by cases hk⟩)
 exact ⟨cv, w', c2, h1, h2.mono g2.ro g2.m, g1, h4.trans hh g2⟩
end Sx
namespace Sx
open Go
theorem kEq_run {κ : Nat} {d : TypeDesc} (hd : cKind d = some κ) {ro m m'} {k k' : V} {kc kc' : Value} (hk : VRel ro m k kc) (hk' : VRel ro m' k' kc') {b : Bool} (h : kEq κ k k' = some b) :
  Instr.sameNow d kc kc' = some b ∧ (b = true → kc' = kc) := by
 unfold kEq at h
 split at h
 ·split at h <;> cases h
  rename_i e
  subst e
  rw [hk.int_inv, hk'.int_inv]
  cases d <;> simp [cKind] at hd
  refine ⟨by simp [Instr.sameNow]; rw [Bool.eq_iff_iff]; simp, fun hb => ?_⟩
  rw [of_decide_eq_true hb]
 ·cases h
  rw [hk.str_inv, hk'.str_inv]
  cases d <;> simp [cKind] at hd
  refine ⟨?_, fun hb => by rw [of_decide_eq_true hb]⟩
  simp only [Instr.sameNow, Option.some.injEq]
  rw [Bool.eq_iff_iff, MapKept.bytes_beq]
  simp
 ·cases h
  rw [hk.bool_inv, hk'.bool_inv]
  cases d <;> simp [cKind] at hd
  refine ⟨rfl, fun hb => by rw [eq_of_beq hb]⟩
 ·cases h
theorem kEq_pure {κ : Nat} {ro m} {k : V} {kc : Value} (hk : VRel ro m k kc) {k'} {b : Bool} (h : kEq κ k k' = some b) : VRel ro Pl.none k kc ∧ ∀ n, Instr.sameBits n kc kc = true := by
 unfold kEq at h
 split at h
 ·rw [hk.int_inv]; exact ⟨.int .., fun n => by cases n <;> simp [Instr.sameBits]⟩
 ·rw [hk.str_inv]; exact ⟨.str .., fun n => by cases n <;> simp [Instr.sameBits, MapKept.bytes_beq]⟩
 ·rw [hk.bool_inv]; exact ⟨.bool .., fun n => by cases n <;> simp [Instr.sameBits]⟩
 ·cases h
theorem mFind_run {κ : Nat} {d : TypeDesc} (hd : cKind d = some κ) {ro m} {k : V} {kc : Value} (hk : VRel ro m k kc) : ∀ (es : List (V × V)) (ce : List MapEntry) (i : Nat) {r},
  es.length = ce.length → (∀ j (h : j < es.length) (h' : j < ce.length), VRel ro Pl.none es[j].1 ce[j].key) → mFind κ k es i = some r →
  (r = none ∧ Instr.findNow d kc ce i = some none) ∨ ∃ (j : Nat) (e : MapEntry), r = some (i + j) ∧ ce[j]? = some e ∧ Instr.findNow d kc ce i = some (some (i + j, e.val)) ∧ e.key = kc ∧ VRel ro Pl.none k kc ∧ ∀ n, Instr.sameBits n kc kc = true
 | [], ce, i, r, hl, _, h => by
  cases ce with
  | nil => cases h; exact .inl ⟨rfl, rfl⟩
  | cons => simp at hl
 | e :: es, [], i, r, hl, _, h => by simp at hl
 | e :: es, x :: ce, i, r, hl, hv, h => by
  have h0 := hv 0 (by simp) (by simp)
  simp only [List.getElem_cons_zero] at h0
  simp only [mFind] at h
  split at h
  ·rename_i hb
   cases h
   obtain ⟨h1, h2⟩ := kEq_run hd hk h0 hb
   obtain ⟨h3, h4⟩ := kEq_pure hk hb
   exact .inr ⟨0, x, rfl, rfl, by simp [Instr.findNow, h1], h2 rfl, h3, h4⟩
  ·rename_i hb
   obtain ⟨h1, h2⟩ := kEq_run hd hk h0 hb
   rcases mFind_run hd hk es ce (i + 1) (by simpa using hl) (fun j a b => by have := hv (j + 1) (by simp; omega) (by simp; omega); simpa using this) h with ⟨h3, h4⟩ | ⟨j, y, h3, h4, h5, h6⟩
   ·exact .inl ⟨h3, by simp [Instr.findNow, h1, h4]⟩
   ·exact .inr ⟨j + 1, y, by rw [h3]; congr 1; omega, by simpa using h4, by simp [Instr.findNow, h1, h5]; omega, h6⟩
  ·cases h
theorem kEq_ne {κ : Nat} {ro m m'} {k k' : V} {kc kc' : Value} (hk : VRel ro m k kc) (hk' : VRel ro m' k' kc') (h : kEq κ k k' = some false) : kc' ≠ kc := by
 unfold kEq at h
 split at h
 ·split at h
  ·rename_i e
   rw [hk.int_inv, hk'.int_inv]
   intro hc; cases hc
   simp at h
  ·cases h
 ·rw [hk.str_inv, hk'.str_inv]
  intro hc
  simp only [Option.some.injEq, decide_eq_false_iff_not] at h
  refine h ?_
  injection hc with hc
  injection hc with hc
  simpa using hc.symm
 ·rw [hk.bool_inv, hk'.bool_inv]
  intro hc; cases hc
  simp at h
 ·cases h
theorem mFind_none {κ : Nat} {d : TypeDesc} (hd : cKind d = some κ) {ro m} {k : V} {kc : Value} (hk : VRel ro m k kc) : ∀ (es : List (V × V)) (ce : List MapEntry) (i : Nat),
  es.length = ce.length → (∀ j (h : j < es.length) (h' : j < ce.length), VRel ro Pl.none es[j].1 ce[j].key) → mFind κ k es i = some none → ∀ x ∈ ce, x.key ≠ kc
 | [], ce, i, hl, _, h => by
  cases ce with
  | nil => intro x hx; cases hx
  | cons => simp at hl
 | e :: es, [], i, hl, _, h => by simp at hl
 | e :: es, x :: ce, i, hl, hv, h => by
  have h0 := hv 0 (by simp) (by simp)
  simp only [List.getElem_cons_zero] at h0
  simp only [mFind] at h
  split at h
  ·cases h
  ·rename_i hb
   intro y hy
   rcases List.mem_cons.1 hy with rfl | hy
   ·exact kEq_ne hk h0 hb
   ·exact mFind_none hd hk es ce (i + 1) (by simpa using hl) (fun j a b => by have := hv (j + 1) (by simp; omega) (by simp; omega); simpa using this) h y hy
  ·cases h
theorem cKey_spec {P t κ e} (h : cKey P t = some (κ, e)) : ∃ kt d, P.underlying t = some (.map kt e) ∧ P.underlying kt = some d ∧ cKind d = some κ := by
 unfold cKey at h
 split at h
 ·rename_i kt e' hu
  split at h
  ·rename_i d hd
   cases hk : cKind d with
   | none => simp [hk] at h
   | some κ' => simp [hk] at h; obtain ⟨rfl, rfl⟩ := h; exact ⟨kt, d, hu, hd, hk⟩
  ·cases h
 ·cases h
theorem checkKey_run {P : Program} {w : World} {kt : TypeId} {d : TypeDesc} {κ} (hd : P.underlying kt = some d) (hk : cKind d = some κ) (v : Value) (e : Bool) (n : Nat) : (Instr.checkKey e (n + 1) kt v).run P w = .ok () w := by
 unfold Instr.checkKey
 simp only [Sem.run_bind, run_underlying hd, Result.andThen]
 cases d <;> simp_all [cKind]
theorem map_obj {c : Ctx} {w : World} {h : List O} (hh : HRel c w h) {id : Nat} {es : List (V × V)} (hid : h[id]? = some (.map es)) {xc : Value} (hx : VRel c.ro c.m (.mp id) xc) :
  ∃ (p : Place) (ce : Array MapEntry) (clock : Nat), xc = .map (some p.block) ∧ c.m id = some p ∧ p.null = false ∧ w.heap[p.block]? = some (.map ce clock) ∧ MapKept.Stamped ce clock ∧ es.length = ce.size ∧
   ∀ i (h : i < es.length) (h' : i < ce.size), VRel c.ro Pl.none es[i].1 ce[i].key ∧ VRel c.ro c.m es[i].2 ce[i].val := by
 cases hx with
 | mp _ _ p hp hn =>
  obtain ⟨p', hp', ⟨h0, ce, cl, h1, hst, h2, h3⟩, _⟩ := hh.obj id _ hid trivial
  rw [hp] at hp'; cases hp'
  exact ⟨p, ce, cl, rfl, hp, hn, h1, hst, h2, h3⟩
theorem sound_mkm {P : Program} {c w h} (hh : HRel c w h) (t : TypeId) : Ok P c w h (Instr.makeMap t none) (.mp h.length) (h ++ [.map []]) := by
 obtain ⟨h1, h2⟩ := hh.grow (w' := { w with heap := w.heap.push (.map #[] 0) }) (.map []) ⟨w.heap.size, 0, 0, false, 0⟩ (fun _ => Nat.le_refl _) (by simp) (fun b hb => by
  simp only [Array.getElem?_push]; rw [if_neg (by omega)]) rfl rfl rfl (fun m' hm => ⟨rfl, #[], 0, by simp, MapKept.stamped_empty 0, rfl, fun i h => by simp at h⟩)
 exact ⟨.map (some w.heap.size), _, _, rfl, .mp _ _ ⟨w.heap.size, 0, 0, false, 0⟩ (by simp) rfl, h1, h2⟩
theorem sound_mupd {P : Program} {c w h} (hh : HRel c w h) {t e : TypeId} {κ : Nat} (hk : cKey P t = some (κ, e)) {id : Nat} {es : List (V × V)} (hid : h[id]? = some (.map es)) {mc : Value} (hm : VRel c.ro c.m (.mp id) mc)
  {k x : V} {kc xc : Value} (hkc : VRel c.ro c.m k kc) (hxc : VRel c.ro c.m x xc) {es' : List (V × V)}
  (hs : (∃ i, mFind κ k es 0 = some (some i) ∧ es' = es.set i (k, x)) ∨ (mFind κ k es 0 = some none ∧ (kEq κ k k).isSome = true ∧ es' = es ++ [(k, x)])) :
  ∃ w', (Instr.mapUpdate t mc kc xc).run P w = .ok () w' ∧ HRel c w' (h.set id (.map es')) ∧ Adv c w h c w' (h.set id (.map es')) := by
 obtain ⟨kt, d, hu, hd, hκ⟩ := cKey_spec hk
 obtain ⟨p, ce, cl, rfl, hp, hn, hw, hst, hl, hv⟩ := map_obj hh hid hm
 have hlt : p.block < w.heap.size := (Array.getElem?_eq_some_iff.1 hw).1
 have fin : ∀ (ce' : Array MapEntry) (cl' : Nat), MapKept.Stamped ce' cl' → es'.length = ce'.size → (∀ i (h : i < es'.length) (h' : i < ce'.size), VRel c.ro Pl.none es'[i].1 ce'[i].key ∧ VRel c.ro c.m es'[i].2 ce'[i].val) →
   HRel c { w with heap := w.heap.setIfInBounds p.block (.map ce' cl') } (h.set id (.map es')) ∧ Adv c w h c { w with heap := w.heap.setIfInBounds p.block (.map ce' cl') } (h.set id (.map es')) := by
  intro ce' cl' g0 g1 g2
  exact hh.change id _ (.map es') p hid trivial hp hn (by simp) (fun b hb => by simp [Ne.symm hb]) rfl rfl rfl ⟨hn, ce', cl', by simp [hlt], g0, g1, g2⟩
 have hrel : ∀ j (h : j < es.length) (h' : j < ce.toList.length), VRel c.ro Pl.none es[j].1 ce.toList[j].key := fun j a b => by
  have := (hv j a (by simpa using b)).1; simpa using this
 rcases hs with ⟨i, hf, rfl⟩ | ⟨hf, heq, rfl⟩
 ·rcases mFind_run hκ hkc es ce.toList 0 (by simpa using hl) hrel hf with ⟨h1, _⟩ | ⟨j, y, h1, h2, h3, h4, h5, h6⟩
  ·cases h1
  ·simp at h1; subst h1
   simp only [Nat.zero_add] at h3
   have h2' : ce[i]? = some y := by simpa using h2
   have hi : i < ce.size := (Array.getElem?_eq_some_iff.1 h2').1
   have hks : (Instr.keyThatStays kc kc).run P w = .ok kc w := by simp [Instr.keyThatStays, h6]
   obtain ⟨g1, g2⟩ := fin (ce.modify i fun e => { e with key := kc, val := xc }) cl (MapKept.stamped_modify hst _ _ (fun _ _ => rfl) (fun e _ he => by rw [h2'] at he; cases he; exact h4.symm)) (by simp [hl]) (fun j a b => by
    simp only [Array.getElem_modify, List.getElem_set]
    by_cases hij : i = j
    ·subst hij; simp only [if_true]; exact ⟨h5, hxc⟩
    ·simp only [if_neg hij]; exact hv j (by simpa using a) (by simpa using b))
   refine ⟨_, ?_, g1, g2⟩
   simp [Instr.mapUpdate, run_underlying hu, MapKept.run_getObj_map hw, checkKey_run hd hκ, MapKept.run_findKey hd h3, h2', h4, hks, MapKept.run_setObj_map _ hw, Result.andThen]
 ·rcases mFind_run hκ hkc es ce.toList 0 (by simpa using hl) hrel hf with ⟨_, h3⟩ | ⟨j, y, h1, _⟩
  ·obtain ⟨b, hb⟩ := Option.isSome_iff_exists.1 heq
   have hpk := (kEq_pure hkc hb).1
   obtain ⟨g1, g2⟩ := fin (ce.push { key := kc, val := xc, born := cl }) (cl + 1) (MapKept.stamped_push hst (mFind_none hκ hkc es ce.toList 0 (by simpa using hl) hrel hf)) (by simp [hl]) (fun j a b => by
    by_cases hj : j < es.length
    ·rw [Array.getElem_push_lt (by omega), List.getElem_append_left hj]; exact hv j hj _
    ·have e1 : j = es.length := by simp at a; omega
     have e2 : j = ce.size := by omega
     subst e2
     simp only [Array.getElem_push_eq]
     rw [List.getElem_append_right (by omega)]
     simp only [hl, Nat.sub_self, List.getElem_cons_zero]
     exact ⟨hpk, hxc⟩)
   refine ⟨_, ?_, g1, g2⟩
   simp [Instr.mapUpdate, run_underlying hu, MapKept.run_getObj_map hw, checkKey_run hd hκ, MapKept.run_findKey hd h3, MapKept.run_setObj_map _ hw, Result.andThen]
  ·cases h1
theorem cZeroV_run {P : Program} {w : World} {t v} (h : cZeroV P t = some v) : ∃ z, (zeroValue t).run P w = .ok z w ∧ ∀ ro m, VRel ro m v z := by
 unfold cZeroV at h
 split at h
 ·rename_i i hi
  split at h
  ·rename_i z hz
   exact ⟨z, by simp [zeroValue, typeInfo, hi, hz], fun ro m => ofVal_rel h⟩
  ·cases h
 ·cases h
theorem sound_mget {P : Program} {c w h} (hh : HRel c w h) {t e : TypeId} {κ : Nat} (hk : cKey P t = some (κ, e)) {z : V} (hz : cZeroV P e = some z) {t0 : T} {m' k' : Opd} {mc : Value} (hm : VRel c.ro c.m (m'.ev t0) mc)
  {kc : Value} (hkc : VRel c.ro c.m (k'.ev t0) kc) (ok : Bool) {v : V} {h' : List O} (hs : opStep t0 h (.mget κ m' k' z ok) = some (v, h')) : Ok P c w h (Instr.lookup t mc kc ok) v h' := by
 simp only [opStep] at hs
 generalize m'.ev t0 = xv at *
 generalize k'.ev t0 = k at *
 obtain ⟨kt, d, hu, hd, hκ⟩ := cKey_spec hk
 obtain ⟨zc, hzr, hzv⟩ := cZeroV_run (P := P) (w := w) hz
 have hfin : ∀ (u : V) (uc : Value) (b : Bool), VRel c.ro c.m u uc → VRel c.ro c.m (if ok = true then V.tup [u, .bool b] else u) (if ok = true then .tuple #[uc, .bool b] else uc) := by
  intro u uc b hu
  cases ok
  ·exact hu
  ·refine .tup _ _ _ rfl fun i h h' => ?_
   have : i = 0 ∨ i = 1 := by simp at h; omega
   rcases this with rfl | rfl
   ·exact hu
   ·exact .bool ..
 split at hs
 ·rename_i id hm
  split at hs
  ·rename_i es hid
   obtain ⟨p, ce, cl, rfl, hp, hn, hw, hst, hl, hv⟩ := map_obj hh hid hm
   have hrel : ∀ j (h : j < es.length) (h' : j < ce.toList.length), VRel c.ro Pl.none es[j].1 ce.toList[j].key := fun j a b => by
    have := (hv j a (by simpa using b)).1; simpa using this
   split at hs
   ·rename_i i hf
    rcases mFind_run hκ hkc es ce.toList 0 (by simpa using hl) hrel hf with ⟨h1, _⟩ | ⟨j, y, h1, h2, h3, h4, h5, h6⟩
    ·cases h1
    ·simp at h1; subst h1
     simp only [Nat.zero_add] at h3
     obtain ⟨hi, rfl⟩ := List.getElem?_eq_some_iff.1 h2
     have hi' : i < es.length := by simp at hi; omega
     rw [List.getElem?_eq_getElem hi'] at hs
     cases hs
     refine Ok.of_same hh (cv := if ok = true then .tuple #[ce.toList[i].val, .bool true] else ce.toList[i].val) ?_ (hfin _ _ _ (by have := (hv i hi' (by simpa using hi)).2; simpa using this))
     simp [Instr.lookup, run_underlying hu, MapKept.run_getObj_map hw, checkKey_run hd hκ, MapKept.run_findKey hd h3, Result.andThen]
   ·rename_i hf
    cases hs
    rcases mFind_run hκ hkc es ce.toList 0 (by simpa using hl) hrel hf with ⟨_, h3⟩ | ⟨j, y, h1, _⟩
    ·refine Ok.of_same hh (cv := if ok = true then .tuple #[zc, .bool false] else zc) ?_ (hfin _ _ _ (hzv _ _))
     simp [Instr.lookup, run_underlying hu, MapKept.run_getObj_map hw, checkKey_run hd hκ, MapKept.run_findKey hd h3, hzr, Result.andThen]
    ·cases h1
   ·cases hs
  ·cases hs
 ·rename_i hm
  cases hs
  rw [hm.nilm_inv]
  refine Ok.of_same hh (cv := if ok = true then .tuple #[zc, .bool false] else zc) ?_ (hfin _ _ _ (hzv _ _))
  have h3 : Instr.findNow d kc [] 0 = some none := rfl
  simp [Instr.lookup, run_underlying hu, checkKey_run hd hκ, MapKept.run_findKey hd h3, hzr, Result.andThen]
 ·cases hs
end Sx
namespace Sx
open Go
set_option linter.unusedSimpArgs false
set_option linter.unusedVariables false
theorem sound_capL {P : Program} {c w h} (hh : HRel c w h) {t e : TypeId} (hu : P.underlying t = some (.slice e)) {id off len s n : Nat} {xc : Value} (hx : VRel c.ro c.m (.sl id off len s (some n)) xc)
  {ts : Array TypeId} (hts : ts[0]? = some t) (ty) : Ok P c w h (Builtin.cap_ ts ty #[xc]) (.int .i64 n) h := by
 rcases hx.sl_inv with ⟨p, cap, o, _, _, _, _, _, hk, rfl⟩ | ⟨p, a, _, _, rfl, rfl, hk, rfl⟩
 ·have := hk n rfl; subst this
  exact Ok.of_same hh (cv := .int .i64 n) (by simp [Builtin.cap_, hts, Sem.run_bind, run_underlying hu, goInt]) (.int ..)
 ·cases hk
theorem sound_capN {P : Program} {c w h} (hh : HRel c w h) {t e : TypeId} (hu : P.underlying t = some (.slice e)) {xc : Value} (hx : VRel c.ro c.m .nils xc)
  {ts : Array TypeId} (hts : ts[0]? = some t) (ty) : Ok P c w h (Builtin.cap_ ts ty #[xc]) (.int .i64 0) h := by
 rw [hx.nils_inv]
 exact Ok.of_same hh (cv := .int .i64 0) (by simp [Builtin.cap_, hts, Sem.run_bind, run_underlying hu, goInt]) (.int ..)
theorem els_take {ro m es sz} {l : List Value} (h : Els ro m es sz (l[·]?)) (k : Nat) : Els ro m (es.take k) sz ((l.take ((es.take k).length * sz))[·]?) := by
 refine ⟨fun i hi => by simp only [List.getElem_take]; exact h.len _ _, fun e he => h.ones e (List.mem_of_mem_take he), fun i hi j hj => ?_⟩
 simp only [List.getElem_take] at hj ⊢
 obtain ⟨x, hx, hv⟩ := h.rel i (by simp at hi; omega) j hj
 have hms := mul_step (s := sz) hi
 have := h.len i (by simp at hi; omega)
 exact ⟨x, by rw [List.getElem?_take_of_lt (by omega)]; exact hx, hv⟩
theorem sl_flat {c w h} (hh : HRel c w h) {id sz off k : Nat} {es : List (List V)} (hid : h[id]? = some (.arr es sz)) {p : Place} (hp : c.m id = some p) (hn : p.null = false) (hk : off + k ≤ es.length) :
  ∃ news : List Value, news.length = k * sz ∧ Els c.ro Pl.none ((es.drop off).take k) sz (news[·]?) ∧ ∀ j u, news[j]? = some u → w.cell? ⟨p.block, p.base + off * sz + j, none⟩ = some u := by
 obtain ⟨cc, e', fr, hw, q1, q2, q3, hl, hones, q4, q5⟩ := arr_cells hh hid hp hn
 have hlen : ((es.drop off).take k).length = k := by simp; omega
 have := flat_range (ro := c.ro) (m := Pl.none) (w := w) (b := p.block) (o := p.base + off * sz) (sz := sz) (es := (es.drop off).take k)
  (fun i hi => by simp only [List.getElem_take, List.getElem_drop]; exact hl _ _) (fun e he => hones e (List.mem_of_mem_drop (List.mem_of_mem_take he)))
  (fun i hi j hj => by
   simp only [List.getElem_take, List.getElem_drop] at hj ⊢
   obtain ⟨x, hx, hv⟩ := q4 (off + i) (by simp at hi; omega) j hj
   refine ⟨x, ?_, hv⟩
   rw [cell_of_heap hw, ← hx]
   congr 1
   rw [Nat.add_mul]; omega)
 obtain ⟨news, h1, h2, h3⟩ := this
 exact ⟨news, by rw [h1, hlen], h2, h3⟩
theorem over_ok {P : Program} {c w h} (hh : HRel c w h) {id sz off : Nat} {es src : List (List V)} (hid : h[id]? = some (.arr es sz)) {p : Place} (hp : c.m id = some p) (hn : p.null = false) (hoff : off ≤ es.length)
  {news : List Value} (n1 : news.length = src.length * sz) (n2 : Els c.ro Pl.none src sz (news[·]?)) (hfit : p.base + off * sz + news.length ≤ p.top) :
  (storeCells ⟨p.block, p.base + off * sz, none⟩ news).run P w = .ok () (w.setCells p.block (p.base + off * sz) news) ∧
  HRel c (w.setCells p.block (p.base + off * sz) news) (h.set id (.arr (es.take off ++ (src ++ es.drop (off + src.length))) sz)) ∧ Adv c w h c (w.setCells p.block (p.base + off * sz) news) (h.set id (.arr (es.take off ++ (src ++ es.drop (off + src.length))) sz)) := by
 obtain ⟨cc, e', fr, hw, g1, g2, g3, glen, gones, g4, g5⟩ := arr_cells hh hid hp hn
 have hst := store_at (P := P) hw (vs := news) (o := p.base + off * sz) (by omega) (by rw [g1]; exact g5) (n2.one n1)
 obtain ⟨cc', q1, q2, q3⟩ := setCells_heap news w p.block (p.base + off * sz) cc e' fr hw (by omega)
 obtain ⟨k1, k2, k3, k4⟩ := setCells_rest news w p.block (p.base + off * sz)
 have hnl : (es.take off ++ (src ++ es.drop (off + src.length))).length = max es.length (off + src.length) := by simp; omega
 have hget : ∀ (i : Nat) (hi : i < (es.take off ++ (src ++ es.drop (off + src.length))).length), (es.take off ++ (src ++ es.drop (off + src.length)))[i] = if h : off ≤ i ∧ i < off + src.length then src[i - off]'(by omega) else es[i]'(by rw [hnl] at hi; omega) := by
  intro i hi
  rw [hnl] at hi
  by_cases c1 : i < off
  ·rw [dif_neg (by omega), List.getElem_append_left (by simp; omega)]; simp
  ·by_cases c2 : i < off + src.length
   ·rw [dif_pos (by omega), List.getElem_append_right (by simp; omega), List.getElem_append_left (by simp; omega)]
    congr 1; simp; omega
   ·rw [dif_neg (by omega), List.getElem_append_right (by simp; omega), List.getElem_append_right (by simp; omega), List.getElem_drop]
    congr 1; simp; omega
 obtain ⟨r1, r2⟩ := hh.change (w' := w.setCells p.block (p.base + off * sz) news) id _ (.arr (es.take off ++ (src ++ es.drop (off + src.length))) sz) p hid trivial hp hn k1 (fun b hb => setCells_other _ _ _ _ _ hb) k2 k3 k4 (by
  refine ⟨fun hnull => (by rw [hn] at hnull; cases hnull), ?_, ?_, fun _ => ⟨cc', ⟨hn, by omega, g2, e', fr, q1, g5⟩, ?_, ?_⟩⟩
  ·intro x hx
   simp only [List.mem_append] at hx
   rcases hx with hx | hx | hx
   ·exact gones x (List.mem_of_mem_take hx)
   ·exact n2.ones x hx
   ·exact gones x (List.mem_of_mem_drop hx)
  ·intro i hi
   rw [hget i hi]
   split
   ·exact n2.len _ _
   ·exact glen _ _
  ·rw [hnl]
   rcases Nat.le_total es.length (off + src.length) with h1 | h1
   ·rw [Nat.max_eq_right h1, Nat.add_mul]; omega
   ·rw [Nat.max_eq_left h1]; exact g3
  ·intro i hi j hj
   have hi' : i < max es.length (off + src.length) := by rw [hnl] at hi; exact hi
   by_cases c1 : off ≤ i ∧ i < off + src.length
   ·have e3 : (es.take off ++ (src ++ es.drop (off + src.length)))[i] = src[i - off]'(by omega) := by rw [hget i hi, dif_pos c1]
    simp only [e3] at hj ⊢
    obtain ⟨x, hx1, hx2⟩ := n2.rel (i - off) (by omega) j hj
    have m1 := mul_step (s := sz) (show i - off < src.length by omega)
    have m2 : i * sz = off * sz + (i - off) * sz := by rw [← Nat.add_mul]; congr 1; omega
    have hj0 := n2.len (i - off) (by omega)
    refine ⟨x, ?_, hx2⟩
    rw [q3 _ (by omega), if_pos (by omega), ← hx1]
    congr 1; omega
   ·have hie : i < es.length := by omega
    have e3 : (es.take off ++ (src ++ es.drop (off + src.length)))[i] = es[i] := by rw [hget i hi, dif_neg c1]
    simp only [e3] at hj ⊢
    obtain ⟨x, hx1, hx2⟩ := g4 i hie j hj
    have hms := mul_step (s := sz) hie
    have hj0 := glen i hie
    refine ⟨x, ?_, hx2⟩
    rw [q3 _ (by omega), if_neg]
    ·exact hx1
    ·rcases Nat.lt_or_ge i off with c2 | c2
     ·have := mul_step (s := sz) c2; omega
     ·have : off + src.length ≤ i := by omega
      have := Nat.mul_le_mul_right sz this
      rw [Nat.add_mul] at this
      omega)
 exact ⟨hst, r1, r2⟩
theorem sound_copy {P : Program} {c w h} (hh : HRel c w h) {t : TypeId} {n z bytes} (hel : cElem P t = some (n, z, bytes)) {xv yv : V} {xc yc : Value} (hx : VRel c.ro c.m xv xc) (hy : VRel c.ro c.m yv yc) {v h'} (hs : copyV h xv yv n = some (v, h'))
    {ts : Array TypeId} (hts : ts[0]? = some t) (ty : TypeId) : Ok P c w h (Builtin.copy_ ts ty #[xc, yc]) v h' := by
  obtain ⟨e, i, hu, hi, his, hib, hpos, hzl, hz⟩ := cElem_spec hel
  unfold copyV at hs
  split at hs
  case h_2 => cases hs
  case h_1 id off len s kk =>
    split at hs
    case h_2 => cases hs
    case h_1 es s' hid =>
      split at hs
      case h_2 => cases hs
      case h_1 src hsrc =>
        split at hs <;> cases hs
        rename_i hc
        obtain ⟨rfl, e2, hoff⟩ := hc
        have e2 := e2.symm
        subst e2
        -- what is copied
        have hread : ∃ (ylen ycap : Nat) (ya : Option Addr) (news : List Value), yc = .slice ya ylen ycap ∧ src.length = min ylen len ∧ news.length = src.length * s ∧ Els c.ro Pl.none src s (news[·]?) ∧
            (src.length = 0 ∨ ∃ b o, ya = some ⟨b, o, none⟩ ∧ ∀ j u, news[j]? = some u → w.cell? ⟨b, o + j, none⟩ = some u) := by
          cases yv <;> simp only [srcC] at hsrc <;> try (cases hsrc; done)
          case vs els s2 =>
            split at hsrc <;> cases hsrc
            rename_i e0
            subst e0
            obtain ⟨news, a, cap, h1, h2, h3, h4, h5⟩ := elemsOf_flat (sz := s2) (es := els) hh hy (by simp [elemsOf])
            refine ⟨els.length, cap, a, news.take ((els.take len).length * s2), h3, by simp [Nat.min_comm], ?_, els_take h2 len, ?_⟩
            · rw [List.length_take, h1]
              have : (els.take len).length * s2 ≤ els.length * s2 := Nat.mul_le_mul_right _ (by simp; omega)
              omega
            · rcases h5 with h5 | ⟨b, o, rfl, h6⟩
              · exact .inl (by simp [h5])
              · refine .inr ⟨b, o, rfl, fun j u hj => h6 j u ?_⟩
                rw [List.getElem?_take] at hj
                split at hj
                · exact hj
                · cases hj
          case sl id2 o2 l2 s2 k2 =>
            split at hsrc
            case isFalse => cases hsrc
            case isTrue e0 =>
              subst e0
              split at hsrc
              case h_2 => cases hsrc
              case h_1 es2 s3 hid2 =>
                split at hsrc <;> cases hsrc
                rename_i hc2
                obtain ⟨rfl, hle⟩ := hc2
                rcases hy.sl_inv with ⟨p, cap, o, hp, hn, hcap, ho, hto, hk, rfl⟩ | ⟨p, a, hp, hn, rfl, rfl, rfl, rfl⟩
                · have hln : ((es2.drop o2).take (min l2 len)).length = min l2 len := by simp; omega
                  obtain ⟨news, h1, h2, h3⟩ := sl_flat hh hid2 hp hn hle
                  refine ⟨l2, cap, _, news, rfl, hln, by rw [h1, hln], h2, ?_⟩
                  rcases Nat.eq_zero_or_pos (min l2 len) with h0 | h0
                  · exact .inl (by rw [hln, h0])
                  · have ho' : o = p.base + o2 * s3 := by rcases ho with h | h; exact h; omega
                    exact .inr ⟨p.block, o, rfl, fun j u hj => by rw [ho']; exact h3 j u hj⟩
                · exact ⟨0, 0, a, [], rfl, by simp, by simp, ⟨fun i h => by simp at h, fun e h => by simp at h, fun i h => by simp at h⟩, .inl (by simp)⟩
        obtain ⟨ylen, ycap, ya, news, rfl, hsl, n1, n2, n3⟩ := hread
        have hfirst : (Builtin.firstCells i.size (min ylen len) (.slice ya ylen ycap)).run P w = .ok news.toArray w := by
          rcases n3 with n3 | ⟨b, o, rfl, n3⟩
          · have hnn : news = [] := by have : news.length = 0 := by rw [n1, n3]; simp
                                       exact List.eq_nil_of_length_eq_zero this
            subst hnn
            rw [hsl] at n3
            cases ya with
            | none => exact run_firstCells_none w i.size _ _ _
            | some a => exact run_firstCells_some w i.size _ a _ _ [] (by simp [n3]) (fun j v h => by simp at h)
          · exact run_firstCells_some w i.size _ ⟨b, o, none⟩ _ _ news (by rw [n1, hsl, his]) (fun j v hj => by rw [Addr.add_mid]; exact n3 j v hj)
        have hsame : src.length = 0 → h.set id (.arr (es.take off ++ (src ++ es.drop (off + src.length))) s) = h := by
          intro h0
          have : src = [] := List.eq_nil_of_length_eq_zero h0
          subst this
          obtain ⟨hl, he⟩ := List.getElem?_eq_some_iff.1 hid
          have e2 : es.take off ++ ([] ++ es.drop (off + ([] : List (List V)).length)) = es := by simp
          rw [e2, ← he, List.set_getElem_self]
        rcases hx.sl_inv with ⟨p, cap, o, hp, hn, hcap, ho, hto, hk, rfl⟩ | ⟨p, a, hp, hn, rfl, rfl, rfl, rfl⟩
        · rcases Nat.eq_zero_or_pos src.length with h0 | h0
          · rw [hsame h0]
            have hnn : news = [] := List.eq_nil_of_length_eq_zero (by rw [n1, h0]; simp)
            subst hnn
            refine Ok.of_same hh (cv := .int .i64 src.length) ?_ (.int ..)
            simp [Builtin.copy_, hts, Sem.run_bind, run_underlying hu, Builtin.lenOf, Go.sizeOf, typeInfo, hi, hfirst, storeCells, goInt, hsl]
          · have ho' : o = p.base + off * s := by rcases ho with h | h; exact h; omega
            have htop := hto (by omega)
            have hfit : p.base + off * s + news.length ≤ p.top := by
              rw [n1]
              have : src.length * s ≤ cap * s := Nat.mul_le_mul_right s (by omega)
              omega
            obtain ⟨r1, r2, r3⟩ := over_ok (P := P) hh hid hp hn hoff n1 n2 hfit
            refine ⟨.int .i64 src.length, _, c, ?_, .int .., r2, r3⟩
            simp [Builtin.copy_, hts, Sem.run_bind, run_underlying hu, Builtin.lenOf, Go.sizeOf, typeInfo, hi, hfirst, ho', r1, goInt, hsl]
        · have h0 : src.length = 0 := by omega
          rw [hsame h0]
          have hnn : news = [] := List.eq_nil_of_length_eq_zero (by rw [n1, h0]; simp)
          subst hnn
          refine Ok.of_same hh (cv := .int .i64 src.length) ?_ (.int ..)
          have hfirst' := hfirst
          simp only [Nat.min_zero] at hfirst'
          cases a <;> simp [hfirst', h0, Builtin.copy_, hts, Sem.run_bind, run_underlying hu, Builtin.lenOf, Go.sizeOf, typeInfo, hi, hfirst, storeCells, goInt, hsl]
theorem run_append_grow_make {P : Program} (w : World) (t tx ty e : TypeId) (i : TypeInfo) (z : Value) (ht : P.underlying t = some (.slice e)) (hi : P.info? e = some i) (hz : i.zero = some z) {k : IntKind} (htx : P.underlying tx = some (.int k))
  (base : Option Addr) (sLen sCap : Nat) (olds : List Value) (hold : (Builtin.firstCells i.size sLen (.slice base sLen sCap)).run P w.drew = .ok olds.toArray w.drew) (n : Nat) (hw : IntKind.i64.wrap (n : Int) = n) (hn0 : n * i.size ≠ 0)
  (hb : (n : Int) * i.bytes ≤ 281474976710656)
  (hg : sCap < sLen + n) (h63 : ((sLen + n : Nat) : Int) ≤ 9223372036854775807) (hfit : Builtin.nextslicecap (sLen + n) sCap * i.bytes ≤ 281474976710656) :
  (Builtin.append_ #[t, tx] ty #[.slice base sLen sCap, .int .i64 n]).run P w =
   .ok (.slice (some ⟨w.heap.size, 0, none⟩) (sLen + n) (grownCap w (sLen + n) sCap e))
    (w.drew.alloc (.cells ((olds ++ (Builtin.zeroCells z.cells n).toList).toArray ++ Builtin.zeroCells z.cells (grownCap w (sLen + n) sCap e - (sLen + n))) e)) := by
 have hn : ¬ (sLen + n ≤ sCap) := by omega
 have h63' : ¬ (9223372036854775807 < ((sLen : Int) + (n : Int))) := by omega
 have h48' : ¬ (281474976710656 < Builtin.nextslicecap (sLen + n) sCap * i.bytes) := by omega
 have h0 : ¬ ((n : Int) < 0) := by omega
 have hb' : ¬ (281474976710656 < (n : Int) * i.bytes) := by omega
 have hn1 : ¬ (n = 0 ∨ i.size = 0) := by intro h; rcases h with h | h <;> simp [h] at hn0
 simp [Builtin.append_, run_underlying ht, run_underlying htx, Go.sizeOf, typeInfo, zeroValue, hi, hz, asInt, asIntOf, hw, h0, hb', hn, hn1, h63', h48', Question.forced, hold, newRow, grownCap]
 rw [if_neg hn0]
 congr 3
 apply Array.ext'
 simp [List.append_assoc]
theorem sound_appendG {P : Program} {c w h} (hh : HRel c w h) {t u ty : TypeId} {sz bytes : Nat} {z : List V} (hel : cElem P t = some (sz, z, bytes)) (hbp : 0 < bytes) {xv : V} {xc yc : Value} (hx : VRel c.ro c.m xv xc)
  {es : List (List V)} {news : List Value} (n1 : news.length = es.length * sz) (n2 : Els c.ro Pl.none es sz (news[·]?))
  (hrun : ∀ (base : Option Addr) (len cap : Nat) (olds : List Value) (e : TypeId) (i : TypeInfo) (zz : Value), P.underlying t = some (.slice e) → P.info? e = some i → i.zero = some zz → (Builtin.firstCells i.size len (.slice base len cap)).run P w.drew = .ok olds.toArray w.drew →
   len ≤ cap → cap < len + es.length → ((len + es.length : Nat) : Int) ≤ 9223372036854775807 → Builtin.nextslicecap (len + es.length) cap * i.bytes ≤ 281474976710656 → (len + es.length) * i.bytes ≤ 70368744177664 →
   (Builtin.append_ #[t, u] ty #[.slice base len cap, yc]).run P w = .ok (.slice (some ⟨w.heap.size, 0, none⟩) (len + es.length) (grownCap w (len + es.length) cap e))
    (w.drew.alloc (.cells ((olds ++ news).toArray ++ Builtin.zeroCells zz.cells (grownCap w (len + es.length) cap e - (len + es.length))) e)))
  {v h'} (hs : appendG h xv es sz bytes = some (v, h')) : Ok P c w h (Builtin.append_ #[t, u] ty #[xc, yc]) v h' := by
 obtain ⟨e, i, hut, hi, his, hib, hpos, hzl, hz⟩ := cElem_spec hel
 obtain ⟨i', zz, hi', hzz, z1, z2, z3⟩ := cZero_spec hz
 rw [hi] at hi'; cases hi'
 have hzs : zz.cells.size = sz := by omega
 unfold appendG at hs
 split at hs
 case h_3 => cases hs
 case h_1 =>
  split at hs <;> cases hs
  rename_i hc
  obtain ⟨h0, hb⟩ := hc
  rw [hx.nils_inv]
  have hcap' := grownCap_ge w (0 + es.length) 0 e
  obtain ⟨c', k1, k2, k3⟩ := grown_ok hh (h' := h) rfl (fun _ _ h _ => h) n2 n1 e (Builtin.zeroCells zz.cells (grownCap w (0 + es.length) 0 e - (0 + es.length)))
  have small : es.length ≤ 70368744177664 := Nat.le_trans (Nat.le_mul_of_pos_right _ hbp) hb
  have hr := hrun none 0 0 [] e i zz hut hi hzz (run_firstCells_none w.drew i.size 0 0 0) (Nat.le_refl _) (by omega) (by omega) (growslice_fits (by omega) (by rw [hib, Nat.zero_add]; omega)) (by rw [hib, Nat.zero_add]; exact hb)
  rw [List.nil_append] at hr
  simp only [Nat.zero_add] at hr k1 k2 k3 hcap'
  refine ⟨_, _, c', hr, ?_, k2, k3⟩
  refine .sl _ _ _ _ _ _ 0 _ _ k1 rfl hcap' (.inl (by simp)) (fun _ => ?_) (fun x hx => by cases hx)
  simp only [zeroCells_length, n1, hzs, Nat.zero_add, Nat.zero_mul]
  rw [← Nat.add_mul]
  exact Nat.mul_le_mul_right _ (by omega)
 case h_2 id off len s k =>
  split at hs
  case isFalse => cases hs
  case isTrue e0 =>
   subst e0
   split at hs
   case h_2 => cases hs
   case h_1 old s' hid =>
    split at hs <;> cases hs
    rename_i hc
    obtain ⟨rfl, hle, hcap, hb⟩ := hc
    rcases hx.sl_inv with ⟨p, cap, o, hp, hn, hcl, ho, hto, hk, rfl⟩ | ⟨p, a, hp, hn, rfl, rfl, hk, rfl⟩
    ·have hkc := hk k rfl
     subst hkc
     obtain ⟨olds, o1, o2, o3⟩ := sl_flat hh hid hp hn hle
     have hlen : ((old.drop off).take len).length = len := by simp; omega
     have hold : (Builtin.firstCells i.size len (.slice (some ⟨p.block, o, none⟩) len k)).run P w.drew = .ok olds.toArray w.drew := by
      rcases Nat.eq_zero_or_pos len with h0 | h0
      ·have : olds = [] := List.eq_nil_of_length_eq_zero (by rw [o1, h0]; simp)
       subst this
       exact run_firstCells_some w.drew i.size len ⟨p.block, o, none⟩ len k [] (by simp [h0]) (fun j v h => by simp at h)
      ·have ho' : o = p.base + off * s' := by rcases ho with h | h; exact h; omega
       exact run_firstCells_some w.drew i.size len ⟨p.block, o, none⟩ len k olds (by rw [o1, his]) (fun j v hj => by rw [Addr.add_mid, ho']; exact o3 j v hj)
     have hcap' := grownCap_ge w (len + es.length) k e
     have he' := els_append o2 (by rw [o1, hlen]) n2 n1
     obtain ⟨c', k1, k2, k3⟩ := grown_ok hh (h' := h) rfl (fun _ _ h _ => h) he' (by simp [o1, n1, hlen, Nat.add_mul]) e (Builtin.zeroCells zz.cells (grownCap w (len + es.length) k e - (len + es.length)))
     have small : len + es.length ≤ 70368744177664 := Nat.le_trans (Nat.le_mul_of_pos_right _ hbp) hb
     have hr := hrun (some ⟨p.block, o, none⟩) len k olds e i zz hut hi hzz hold hcl hcap (by omega) (growslice_fits hcap (by rw [hib]; omega)) (by rw [hib]; exact hb)
     refine ⟨_, _, c', hr, ?_, k2, k3⟩
     refine .sl _ _ _ _ _ _ 0 _ _ k1 rfl hcap' (.inl (by simp)) (fun _ => ?_) (fun x hx => by cases hx)
     simp only [zeroCells_length, List.length_append, o1, n1, hzs, Nat.zero_add, Nat.zero_mul]
     rw [← Nat.add_mul, ← Nat.add_mul]
     exact Nat.mul_le_mul_right _ (by omega)
    ·cases hk
theorem sound_appendO {P : Program} {c w h} (hh : HRel c w h) {t u ty : TypeId} {sz bytes : Nat} {z : List V} (hel : cElem P t = some (sz, z, bytes)) (hu : ∃ e', P.underlying u = some (.slice e')) {xv yv : V} {xc yc : Value} (hx : VRel c.ro c.m xv xc) (hy : VRel c.ro c.m yv yc)
  {es : List (List V)} (he : elemsOf h sz yv = some es) {v h'} (hs : appendO h xv es sz = some (v, h')) : Ok P c w h (Builtin.append_ #[t, u] ty #[xc, yc]) v h' := by
 obtain ⟨e, i, hut, hi, his, hib, hpos, hzl, hz⟩ := cElem_spec hel
 obtain ⟨news, n1, n2, n3⟩ := src_sound (P := P) (str := false) (u := u) hh hy (by simpa [srcOf] using he) (.inr ⟨rfl, hu⟩)
 rw [← his] at n3
 unfold appendO at hs
 split at hs
 case h_2 => cases hs
 case h_1 id off len s k =>
  split at hs
  case isFalse => cases hs
  case isTrue e0 =>
   subst e0
   split at hs
   case h_2 => cases hs
   case h_1 old s' hid =>
    split at hs <;> cases hs
    rename_i hc
    obtain ⟨e2, hle, hroom⟩ := hc
    have e2 := e2.symm
    subst e2
    rcases hx.sl_inv with ⟨p, cap, o, hp, hn, hcl, ho, hto, hk, rfl⟩ | ⟨p, a, hp, hn, rfl, rfl, hk, rfl⟩
    ·have hkc := hk k rfl
     subst hkc
     rcases Nat.eq_zero_or_pos k with h0 | h0
     ·have hl0 : len = 0 := by omega
      have hes : es = [] := List.eq_nil_of_length_eq_zero (by omega)
      subst hes
      subst hl0
      subst h0
      have hnn : news = [] := List.eq_nil_of_length_eq_zero (by simpa using n1)
      subst hnn
      have hsm : h.set id (.arr (old.take (off + 0) ++ ([] ++ old.drop (off + 0 + ([] : List (List V)).length))) s) = h := by
       obtain ⟨hl, he⟩ := List.getElem?_eq_some_iff.1 hid
       have e2 : old.take (off + 0) ++ ([] ++ old.drop (off + 0 + ([] : List (List V)).length)) = old := by simp
       rw [e2, ← he, List.set_getElem_self]
      rw [hsm]
      exact Ok.of_same hh (run_append_nothing w t u ty e i hut hi (some ⟨p.block, o, none⟩) 0 0 (Nat.le_refl _) yc n3) (.sl _ _ _ _ _ _ o _ p hp hn (Nat.le_refl _) (.inr rfl) (fun h => by omega) hk)
     ·have ho' : o = p.base + off * s := by rcases ho with h | h; exact h; omega
      have htop := hto h0
      have hpos2 : p.base + (off + len) * s = o + len * s := by rw [ho', Nat.add_mul]; omega
      have hfit : p.base + (off + len) * s + news.length ≤ p.top := by
       rw [n1]
       have e3 : (len + es.length) * s ≤ k * s := Nat.mul_le_mul_right s hroom
       rw [Nat.add_mul] at e3
       rw [Nat.add_mul]; omega
      obtain ⟨cc, e', fr, hw, g1, g2, g3, glen, gones, g4, g5⟩ := arr_cells hh hid hp hn
      obtain ⟨r1, r2, r3⟩ := over_ok (P := P) hh hid hp hn (off := off + len) (by omega) n1 n2 hfit
      have hr := run_append_room_src (P := P) w t u ty e i hut hi p.block o len k yc es.length news n3 hroom
       (fun j hj => by rw [cell_of_heap hw, Array.getElem?_eq_getElem (by rw [his]; omega)]; rfl)
       (fun j hj => frozen_of_heap hw (g5 _ (by rw [his]; omega)))
      rw [his, ← hpos2] at hr
      exact ⟨_, _, c, hr, .sl _ _ _ _ _ _ o _ p hp hn hroom ho hto hk, r2, r3⟩
    ·cases hk
end Sx
namespace Sx
open Go
set_option linter.unusedSimpArgs false
set_option linter.unusedVariables false
def Does (P : Program) (c : Ctx) (w : World) (h : List O) (s : Sem Next) (v : V) (h' : List O) : Prop :=
 ∃ r w' c', s.run P w = .ok r w' ∧ ((∃ cv, r = .value cv ∧ VRel c'.ro c'.m v cv) ∨ (r = .skip ∧ v = .any)) ∧ HRel c' w' h' ∧ Adv c w h c' w' h'
theorem Ok.does {P c w h s v h'} (hk : Ok P c w h s v h') : Does P c w h (do pure (.value (← s))) v h' := by
 obtain ⟨cv, w', c', h1, h2, h3, h4⟩ := hk
 exact ⟨.value cv, w', c', by simp [Sem.run_bind, h1], .inl ⟨cv, rfl, h2⟩, h3, h4⟩
theorem does_pure {P c w h cv v} (hh : HRel c w h) (hv : VRel c.ro c.m v cv) : Does P c w h (pure (.value cv)) v h :=
 ⟨.value cv, w, c, rfl, .inl ⟨cv, rfl, hv⟩, hh, Adv.refl ..⟩
theorem isStr_spec {P t} (h : isStr P t = true) : P.underlying t = some .string := by
 unfold isStr at h; split at h
 ·assumption
 ·cases h
theorem sound_lenS {P : Program} {c w h} (hh : HRel c w h) {t : TypeId} (hu : P.underlying t = some .string) {l : List UInt8} {xc : Value} (hx : VRel c.ro c.m (.str l) xc) {ts : Array TypeId} (hts : ts[0]? = some t) (ty) :
  Ok P c w h (Builtin.len_ ts ty #[xc]) (.int .i64 l.length) h := by
 rw [hx.str_inv]
 refine Ok.of_same hh (cv := .int .i64 l.length) ?_ (.int ..)
 have hsz : (ByteArray.mk l.toArray).size = l.length := by simp [ByteArray.size]
 simp [Builtin.len_, hts, Sem.run_bind, run_underlying hu, goInt, hsz]
theorem sound_lenL {P : Program} {c w h} (hh : HRel c w h) {t e : TypeId} (hu : P.underlying t = some (.slice e)) {xv : V} {xc : Value} (hx : VRel c.ro c.m xv xc) {n : Nat} (hn : (∃ es s, xv = .vs es s ∧ n = es.length) ∨ (∃ i o s k, xv = .sl i o n s k) ∨ (xv = .nils ∧ n = 0))
  {ts : Array TypeId} (hts : ts[0]? = some t) (ty) : Ok P c w h (Builtin.len_ ts ty #[xc]) (.int .i64 n) h := by
 have hc : ∃ ad cap, xc = .slice ad n cap := by
  rcases hn with ⟨es, s, rfl, rfl⟩ | ⟨i, o, s, k, rfl⟩ | ⟨rfl, rfl⟩
  ·rcases hx.vs_inv with ⟨b, o, cap, cs, f, _, _, _, _, _, _, rfl⟩ | ⟨a, rfl, rfl⟩
   ·exact ⟨_, _, rfl⟩
   ·exact ⟨_, _, rfl⟩
  ·rcases hx.sl_inv with ⟨p, cap, o', _, _, _, _, _, _, rfl⟩ | ⟨p, a, _, _, rfl, rfl, rfl, rfl⟩
   ·exact ⟨_, _, rfl⟩
   ·exact ⟨_, _, rfl⟩
  ·exact ⟨_, _, hx.nils_inv⟩
 obtain ⟨ad, cap, rfl⟩ := hc
 exact Ok.of_same hh (cv := .int .i64 n) (by simp [Builtin.len_, hts, Sem.run_bind, run_underlying hu, goInt]) (.int ..)
theorem sound_lenM {P : Program} {c w h} (hh : HRel c w h) {t : TypeId} {q} (hk : cKey P t = some q) {id : Nat} {es : List (V × V)} (hid : h[id]? = some (.map es)) {xc : Value} (hx : VRel c.ro c.m (.mp id) xc)
  {ts : Array TypeId} (hts : ts[0]? = some t) (ty) : Ok P c w h (Builtin.len_ ts ty #[xc]) (.int .i64 es.length) h := by
 obtain ⟨κ, e⟩ := q
 obtain ⟨kt, d, hu, hd, hκ⟩ := cKey_spec hk
 obtain ⟨p, ce, cl, rfl, hp, hn, hw, hst, hl, hv⟩ := map_obj hh hid hx
 refine Ok.of_same hh (cv := .int .i64 es.length) ?_ (.int ..)
 simp [Builtin.len_, hts, Sem.run_bind, run_underlying hu, goInt, MapKept.run_getObj_map hw, Result.andThen, hl]
theorem sound_lenM0 {P : Program} {c w h} (hh : HRel c w h) {t : TypeId} {q} (hk : cKey P t = some q) {xc : Value} (hx : VRel c.ro c.m .nilm xc)
  {ts : Array TypeId} (hts : ts[0]? = some t) (ty) : Ok P c w h (Builtin.len_ ts ty #[xc]) (.int .i64 0) h := by
 obtain ⟨κ, e⟩ := q
 obtain ⟨kt, d, hu, hd, hκ⟩ := cKey_spec hk
 rw [hx.nilm_inv]
 refine Ok.of_same hh (cv := .int .i64 0) ?_ (.int ..)
 simp [Builtin.len_, hts, Sem.run_bind, run_underlying hu, goInt]
theorem sound_mdel {P : Program} {c w h} (hh : HRel c w h) {t e : TypeId} {κ : Nat} (hk : cKey P t = some (κ, e)) {id : Nat} {es : List (V × V)} (hid : h[id]? = some (.map es)) {mc : Value} (hm : VRel c.ro c.m (.mp id) mc)
  {k : V} {kc : Value} (hkc : VRel c.ro c.m k kc) {es' : List (V × V)}
  (hs : (∃ i, mFind κ k es 0 = some (some i) ∧ es' = es.eraseIdx i) ∨ (mFind κ k es 0 = some none ∧ es' = es)) {ts : Array TypeId} (hts : ts[0]? = some t) (ty) :
  Ok P c w h (Builtin.delete_ ts ty #[mc, kc]) (.tup []) (h.set id (.map es')) := by
 obtain ⟨kt, d, hu, hd, hκ⟩ := cKey_spec hk
 obtain ⟨p, ce, cl, rfl, hp, hn, hw, hst, hl, hv⟩ := map_obj hh hid hm
 have hlt : p.block < w.heap.size := (Array.getElem?_eq_some_iff.1 hw).1
 have fin : ∀ (ce' : Array MapEntry), MapKept.Stamped ce' cl → es'.length = ce'.size → (∀ i (h : i < es'.length) (h' : i < ce'.size), VRel c.ro Pl.none es'[i].1 ce'[i].key ∧ VRel c.ro c.m es'[i].2 ce'[i].val) →
   HRel c { w with heap := w.heap.setIfInBounds p.block (.map ce' cl) } (h.set id (.map es')) ∧ Adv c w h c { w with heap := w.heap.setIfInBounds p.block (.map ce' cl) } (h.set id (.map es')) := by
  intro ce' g0 g1 g2
  exact hh.change id _ (.map es') p hid trivial hp hn (by simp) (fun b hb => by simp [Ne.symm hb]) rfl rfl rfl ⟨hn, ce', cl, by simp [hlt], g0, g1, g2⟩
 have hrel : ∀ j (h : j < es.length) (h' : j < ce.toList.length), VRel c.ro Pl.none es[j].1 ce.toList[j].key := fun j a b => by
  have := (hv j a (by simpa using b)).1; simpa using this
 have hvt : VRel c.ro c.m (.tup []) (.tuple #[]) := .tup _ _ _ rfl fun i h => by simp at h
 rcases hs with ⟨i, hf, rfl⟩ | ⟨hf, rfl⟩
 ·rcases mFind_run hκ hkc es ce.toList 0 (by simpa using hl) hrel hf with ⟨h1, _⟩ | ⟨j, y, h1, h2, h3, h4, h5, h6⟩
  ·cases h1
  ·simp at h1; subst h1
   simp only [Nat.zero_add] at h3
   have h2' : ce[i]? = some y := by simpa using h2
   have hi : i < ce.size := (Array.getElem?_eq_some_iff.1 h2').1
   have hes : es.length - 1 = ce.size - 1 := by omega
   obtain ⟨g1, g2⟩ := fin (ce.eraseIdxIfInBounds i) (MapKept.stamped_erase hst i) (by simp [Array.eraseIdxIfInBounds, hi, List.length_eraseIdx, hl]) (fun j a b => by
    have hae : ce.eraseIdxIfInBounds i = ce.eraseIdx i hi := by simp [Array.eraseIdxIfInBounds, hi]
    simp only [List.getElem_eraseIdx, hae, Array.getElem_eraseIdx]
    split
    ·exact hv j _ _
    ·exact hv (j + 1) _ _)
   refine ⟨_, _, c, ?_, hvt, g1, g2⟩
   simp [Builtin.delete_, hts, Sem.run_bind, run_underlying hu, MapKept.run_getObj_map hw, checkKey_run hd hκ, MapKept.run_findKey hd h3, MapKept.run_setObj_map _ hw, Result.andThen]
 ·rcases mFind_run hκ hkc es' ce.toList 0 (by simpa using hl) hrel hf with ⟨_, h3⟩ | ⟨j, y, h1, _⟩
  ·obtain ⟨g1, g2⟩ := fin ce hst hl hv
   refine ⟨_, _, c, ?_, hvt, g1, g2⟩
   simp [Builtin.delete_, hts, Sem.run_bind, run_underlying hu, MapKept.run_getObj_map hw, checkKey_run hd hκ, MapKept.run_findKey hd h3, MapKept.run_setObj_map _ hw, Result.andThen]
  ·cases h1
theorem args1 {cs : Array Value} (h : cs.size = 1) : cs = #[cs[0]] := by
 refine Array.ext (by simp [h]) fun i h1 h2 => ?_
 have : i = 0 := by simp at h2; exact h2
 subst this; rfl
theorem args2 {cs : Array Value} (h : cs.size = 2) : cs = #[cs[0], cs[1]] := by
 refine Array.ext (by simp [h]) fun i h1 h2 => ?_
 have : i = 0 ∨ i = 1 := by simp at h2; omega
 rcases this with rfl | rfl <;> rfl
theorem cElem_und {P t r} (h : cElem P t = some r) : ∃ e, P.underlying t = some (.slice e) := by
 obtain ⟨n, z, b⟩ := r
 obtain ⟨e, i, hu, _⟩ := cElem_spec h
 exact ⟨e, hu⟩
theorem sound_clear {P : Program} {c w h} (hh : HRel c w h) {tt : TypeId} {n z bytes} (hel : cElem P tt = some (n, z, bytes)) {xv xc} (hx : VRel c.ro c.m xv xc) {v h'} (hs : clearV h z xv = some (v, h')) {ts : Array TypeId} (hts : ts[0]? = some tt) (ty : TypeId) :
  Ok P c w h (Builtin.clear_ ts ty #[xc]) v h' := by
 obtain ⟨e, i, hu, hi, his, hib, hpos, hzl, hz⟩ := cElem_spec hel
 obtain ⟨i', zz, hi', hzz, h1, h2, h3⟩ := cZero_spec hz
 rw [hi] at hi'; cases hi'
 have hzs : zz.cells.size = z.length := by omega
 cases xv <;> simp only [clearV] at hs <;> try (cases hs; done)
 case nils =>
  cases hs
  cases hx
  refine Ok.of_same hh (cv := .tuple #[]) ?_ (.any ..)
  simp [Builtin.clear_, hts, Sem.run_bind, hu, underlying]
 case sl id off len s k =>
  split at hs
  case h_2 => cases hs
  case h_1 es s' hid =>
   split at hs
   case isFalse => cases hs
   case isTrue hc =>
    obtain ⟨rfl, rfl, hle⟩ := hc
    cases hs
    have same : len = 0 → h.set id (.arr (es.take off ++ (List.replicate len z ++ es.drop (off + len))) z.length) = h := by
     rintro rfl
     have : es.take off ++ (List.replicate 0 z ++ es.drop (off + 0)) = es := by simp
     rw [this]
     obtain ⟨hl, he⟩ := List.getElem?_eq_some_iff.1 hid
     rw [← he, List.set_getElem_self]
    rcases hx.sl_inv with ⟨p, cap, o, hm, hn, hl, ho, ht, hk, rfl⟩ | ⟨p, a, hm, hn, rfl, rfl, rfl, rfl⟩
    rotate_left
    ·rw [same rfl]
     refine Ok.of_same hh (cv := .tuple #[]) ?_ (.any ..)
     cases a <;> simp [Builtin.clear_, hts, Sem.run_bind, hu, underlying]
    ·by_cases hlen : len = 0
     ·rw [same hlen]
      subst hlen
      refine Ok.of_same hh (cv := .tuple #[]) ?_ (.any ..)
      simp [Builtin.clear_, hts, Sem.run_bind, hu, underlying]
     ·have hoff : o = p.base + off * z.length := by rcases ho with h | h; exact h; omega
      obtain ⟨cc, e', fr, hw, g1, g2, g3, glen, gones, g4, g5⟩ := arr_cells hh hid hm hn
      have hels := els_zeros (h3 c.ro Pl.none) (cZero_ones hz) len
      rw [hzs] at hels
      have hzc : Builtin.zeroCells zz.cells len = (Array.range (len * z.length)).map (zz.cells[· % z.length]!) := by simp [Builtin.zeroCells, hzs]
      have hnl : (Builtin.zeroCells zz.cells len).size = len * z.length := by rw [zeroCells_length, hzs]
      have hmul : off * z.length + len * z.length ≤ es.length * z.length := by rw [← Nat.add_mul]; exact Nat.mul_le_mul_right _ hle
      have hfit : o + (Builtin.zeroCells zz.cells len).toList.length ≤ cc.size := by simp only [Array.length_toList, hnl]; omega
      have hone : ∀ u ∈ (Builtin.zeroCells zz.cells len).toList, u.oneCell' = true := by
       refine Els.one (ro := c.ro) (m := Pl.none) (es := List.replicate len z) (sz := z.length) ?_ (by simp [hnl])
       have : (fun x => (Builtin.zeroCells zz.cells len).toList[x]?) = fun x => ((Array.range (len * z.length)).map (zz.cells[· % z.length]!))[x]? := funext fun x => by rw [Array.getElem?_toList, hzc]
       rw [this]
       exact hels
      have hst := store_at (P := P) hw hfit (by rw [g1]; exact g5) hone
      obtain ⟨cc', q1, q2, q3⟩ := setCells_heap (Builtin.zeroCells zz.cells len).toList w p.block o cc e' fr hw hfit
      obtain ⟨k1, k2, k3, k4⟩ := setCells_rest (Builtin.zeroCells zz.cells len).toList w p.block o
      have hnewlen : (es.take off ++ (List.replicate len z ++ es.drop (off + len))).length = es.length := by simp; omega
      obtain ⟨r1, r2⟩ := hh.change (w' := w.setCells p.block o (Builtin.zeroCells zz.cells len).toList) id _ (.arr (es.take off ++ (List.replicate len z ++ es.drop (off + len))) z.length) p hid trivial hm hn k1 (fun b hb => setCells_other _ _ _ _ _ hb) k2 k3 k4 (by
       have hget : ∀ (i : Nat) (hi : i < (es.take off ++ (List.replicate len z ++ es.drop (off + len))).length), (es.take off ++ (List.replicate len z ++ es.drop (off + len)))[i] = if off ≤ i ∧ i < off + len then z else es[i]'(by omega) := by
        intro i hi
        rw [hnewlen] at hi
        by_cases c1 : i < off
        ·rw [if_neg (by omega), List.getElem_append_left (by simp; omega)]; simp
        ·by_cases c2 : i < off + len
         ·rw [if_pos (by omega), List.getElem_append_right (by simp; omega), List.getElem_append_left (by simp; omega)]; simp
         ·rw [if_neg (by omega), List.getElem_append_right (by simp; omega), List.getElem_append_right (by simp; omega), List.getElem_drop]
          congr 1; simp; omega
       refine ⟨fun hnull => (by rw [hn] at hnull; cases hnull), ?_, ?_, fun _ => ⟨cc', ⟨hn, by omega, g2, e', fr, q1, g5⟩, by rw [hnewlen]; exact g3, ?_⟩⟩
       ·intro x hx
        simp only [List.mem_append] at hx
        rcases hx with hx | hx | hx
        ·exact gones x (List.mem_of_mem_take hx)
        ·rw [List.eq_of_mem_replicate hx]; exact cZero_ones hz
        ·exact gones x (List.mem_of_mem_drop hx)
       ·intro i hi
        rw [hget i hi]
        split
        ·rfl
        ·exact glen _ _
       ·intro i hi j hj
        have hi' : i < es.length := by rw [hnewlen] at hi; exact hi
        have hms := mul_step (s := z.length) hi'
        have hj0 : j < z.length := by
         rw [hget i hi] at hj
         split at hj
         ·exact hj
         ·rwa [glen] at hj
        have e2 := q3 (p.base + i * z.length + j) (by omega)
        by_cases c1 : off ≤ i ∧ i < off + len
        ·have e3 : (es.take off ++ (List.replicate len z ++ es.drop (off + len)))[i][j] = z[j] := by simp only [hget i hi, if_pos c1]
         have m1 := mul_step (s := z.length) (show i - off < len by omega)
         have m2 : i * z.length = off * z.length + (i - off) * z.length := by rw [← Nat.add_mul]; congr 1; omega
         rw [if_pos (by simp only [Array.length_toList, hnl]; omega)] at e2
         obtain ⟨x, hx1, hx2⟩ := hels.rel (i - off) (by simp; omega) j (by simpa using hj0)
         refine ⟨x, ?_, ?_⟩
         ·rw [e2, Array.getElem?_toList, hzc]
          have : p.base + i * z.length + j - o = (i - off) * z.length + j := by omega
          rw [this]
          exact hx1
         ·rw [e3]; simpa using hx2
        ·have e3 : (es.take off ++ (List.replicate len z ++ es.drop (off + len)))[i][j] = es[i][j]'(by rw [glen]; exact hj0) := by simp only [hget i hi, if_neg c1]
         obtain ⟨x, hx1, hx2⟩ := g4 i hi' j (by rw [glen]; exact hj0)
         refine ⟨x, ?_, by rw [e3]; exact hx2⟩
         rw [e2, if_neg]
         ·exact hx1
         ·simp only [Array.length_toList, hnl]
          rcases Nat.lt_or_ge i off with c2 | c2
          ·have := mul_step (s := z.length) c2; omega
          ·have : off + len ≤ i := by omega
           have := Nat.mul_le_mul_right z.length this
           rw [Nat.add_mul] at this
           omega)
      refine ⟨.tuple #[], _, c, ?_, .any .., r1, r2⟩
      obtain ⟨len', rfl⟩ : ∃ l, len = l + 1 := ⟨len - 1, by omega⟩
      simp [Builtin.clear_, hts, Sem.run_bind, hu, underlying, zeroValue, typeInfo, hi, hzz, hst]
theorem sound_append2 {P : Program} {c w h} {t : T} (hh : HRel c w h) {tt u ty : TypeId} {sz bytes : Nat} {z : List V} {str : Bool} (hel : cElem P tt = some (sz, z, bytes)) (hbp : 0 < bytes)
  (hu : (str = true ∧ P.underlying u = some .string ∧ sz = 1) ∨ (str = false ∧ ∃ e', P.underlying u = some (.slice e')))
  {x y : Opd} {xc yc : Value} (hx : VRel c.ro c.m (x.ev t) xc) (hy : VRel c.ro c.m (y.ev t) yc) {v h'} (hs : opStep t h (.append x y sz bytes str) = some (v, h')) :
  Ok P c w h (Builtin.append_ #[tt, u] ty #[xc, yc]) v h' := by
 simp only [opStep] at hs
 generalize x.ev t = xv at *
 generalize y.ev t = yv at *
 split at hs
 ·rename_i r hr
  cases hs
  exact sound_append (P := P) (ty := ty) hh hel hbp hu hx hy hr
 ·split at hs
  ·cases hs
  ·rename_i hstr
   have hu' : ∃ e', P.underlying u = some (.slice e') := by
    rcases hu with ⟨h1, _⟩ | ⟨_, h1⟩
    ·exact absurd h1 hstr
    ·exact h1
   split at hs
   case h_2 => cases hs
   case h_1 es he =>
    split at hs
    ·rename_i r hr
     cases hs
     obtain ⟨e, i, hut, hi, his, hib, hpos, hzl, hz⟩ := cElem_spec hel
     obtain ⟨news, n1, n2, n3⟩ := src_sound (P := P) (str := false) (u := u) hh hy (by simpa [srcOf] using he) (.inr ⟨rfl, hu'⟩)
     refine sound_appendG (P := P) (ty := ty) (u := u) hh hel hbp hx n1 n2 (fun base len cap olds e2 i2 zz g1 g2 g3 g4 g5 g6 g7 g8 g9 => ?_) hr
     rw [hut] at g1; cases g1
     rw [hi] at g2; cases g2
     rw [← his] at n3
     exact run_append_grow_src (P := P) w tt u ty e i zz hut hi g3 base len cap olds g4 yc es.length news n3 g6 g7 g8
    ·exact sound_appendO (P := P) (ty := ty) hh hel hu' hx hy he hs
theorem sound_appendZ {P : Program} {c w h} {t : T} (hh : HRel c w h) {tt u ty : TypeId} {sz bytes : Nat} {z : List V} {ik : IntKind} (hel : cElem P tt = some (sz, z, bytes)) (hbp : 0 < bytes) (hu : P.underlying u = some (.int ik))
  {x y : Opd} {xc yc : Value} (hx : VRel c.ro c.m (x.ev t) xc) (hy : VRel c.ro c.m (y.ev t) yc) {v h'} (hs : opStep t h (.appendZ x y sz z bytes) = some (v, h')) :
  Ok P c w h (Builtin.append_ #[tt, u] ty #[xc, yc]) v h' := by
 simp only [opStep] at hs
 generalize x.ev t = xv at *
 generalize y.ev t = yv at *
 split at hs
 case h_2 => cases hs
 case h_1 n =>
  split at hs
  case isFalse => cases hs
  case isTrue hn =>
   obtain ⟨e, i, hut, hi, his, hib, hpos, hzl, hz⟩ := cElem_spec hel
   obtain ⟨i', zz, hi', hzz, z1, z2, z3⟩ := cZero_spec hz
   rw [hi] at hi'; cases hi'
   have hzs : zz.cells.size = sz := by omega
   have hels := els_zeros (z3 c.ro Pl.none) (cZero_ones hz) n.toNat
   rw [hzs] at hels
   have hzc : Builtin.zeroCells zz.cells n.toNat = (Array.range (n.toNat * sz)).map (zz.cells[· % sz]!) := by simp [Builtin.zeroCells, hzs]
   have hnl : (Builtin.zeroCells zz.cells n.toNat).size = n.toNat * sz := by rw [zeroCells_length, hzs]
   have hels' : Els c.ro Pl.none (List.replicate n.toNat z) sz ((Builtin.zeroCells zz.cells n.toNat).toList[·]?) := by
    have : (fun x => (Builtin.zeroCells zz.cells n.toNat).toList[x]?) = fun x => ((Array.range (n.toNat * sz)).map (zz.cells[· % sz]!))[x]? := funext fun x => by rw [Array.getElem?_toList, hzc]
    rw [this]; exact hels
   have hyc := hy.int_inv
   subst hyc
   have hnn : n = ((n.toNat : Nat) : Int) := by omega
   have hwr : IntKind.i64.wrap ((n.toNat : Nat) : Int) = ((n.toNat : Nat) : Int) := by
    have : ∀ m : Int, 0 ≤ m → m ≤ 70368744177664 → IntKind.i64.wrap m = m := by
     intro m h1 h2
     simp only [IntKind.wrap, IntKind.signed, IntKind.bits]
     simp [Int.bmod_def]; omega
    exact this _ (by omega) (by omega)
   refine sound_appendG (P := P) (ty := ty) (u := u) hh hel hbp hx (es := List.replicate n.toNat z) (news := (Builtin.zeroCells zz.cells n.toNat).toList) (by simp [hnl]) hels' (fun base len cap olds e2 i2 zz2 g1 g2 g3 g4 g5 g6 g7 g8 g9 => ?_) hs
   rw [hut] at g1; cases g1
   rw [hi] at g2; cases g2
   rw [hzz] at g3; cases g3
   simp only [List.length_replicate] at g6 g7 g8 g9 ⊢
   have hb2 : (len + n.toNat) * i.bytes ≤ 70368744177664 := g9
   rw [Nat.add_mul] at hb2
   have hb3 : (n.toNat : Int) * i.bytes ≤ 281474976710656 := by
    have h1 : ((n.toNat * i.bytes : Nat) : Int) ≤ 281474976710656 := by omega
    rwa [Int.natCast_mul] at h1
   have hne : n.toNat * i.size ≠ 0 := by
    have h1 : 0 < n.toNat := by omega
    have := Nat.mul_pos h1 (by omega : 0 < i.size)
    omega
   have := run_append_grow_make (P := P) w tt u ty e i zz hut hi hzz hu base len cap olds g4 n.toNat hwr hne hb3 g6 g7 g8
   rwa [← hnn] at this
theorem sound_builtin {P : Program} {N c t a w h} (hh : HRel c w h) (ht : TRel N c t a) {b : Builtin} {args : Array Operand} {ts : Array TypeId} {ty : TypeId} {xs : List Opd} (hxs : cOpds N args = some xs) {ao} (hc : cBuiltin P b ts xs = some ao)
  {v h'} (hs : opStep t h ao = some (v, h')) (consts : Array Bool) : Does P c w h (builtin b ts ty consts (args.map a.eval)) v h' := by
 have hr := opds_rel ht hxs
 generalize args.map a.eval = cs at *
 unfold cBuiltin at hc
 split at hc
 ·rename_i x tt hts
  have hsz : cs.size = 1 := by rw [← hr.1]; rfl
  have hx := hr.2 0 (by simp) (by omega)
  rw [args1 hsz]
  generalize cs[0] = xc at *
  simp only [List.map_cons, List.getElem_cons_zero] at hx
  split at hc
  ·rename_i hstr
   cases hc
   simp only [opStep] at hs
   generalize x.ev t = xv at *
   split at hs <;> cases hs
   exact (sound_lenS hh (isStr_spec hstr) hx hts ty).does
  ·split at hc
   ·cases hc
    rename_i hel
    obtain ⟨e, hu⟩ := cElem_und hel
    simp only [opStep] at hs
    generalize x.ev t = xv at *
    split at hs <;> cases hs
    ·exact (sound_lenL hh hu hx (.inl ⟨_, _, rfl, rfl⟩) hts ty).does
    ·exact (sound_lenL hh hu hx (.inr (.inl ⟨_, _, _, _, rfl⟩)) hts ty).does
    ·exact (sound_lenL (n := 0) hh hu hx (.inr (.inr ⟨rfl, rfl⟩)) hts ty).does
   ·split at hc <;> cases hc
    rename_i hk
    simp only [opStep] at hs
    split at hs
    case h_1 id hev =>
     rw [hev] at hx
     split at hs <;> cases hs
     rename_i hid
     exact (sound_lenM hh hk hid hx hts ty).does
    case h_2 hev =>
     rw [hev] at hx
     cases hs
     exact (sound_lenM0 hh hk hx hts ty).does
    case h_3 => cases hs
 ·rename_i x y tt hts
  have hsz : cs.size = 2 := by rw [← hr.1]; rfl
  have hx := hr.2 0 (by simp) (by omega)
  have hy := hr.2 1 (by simp) (by omega)
  rw [args2 hsz]
  generalize cs[0] = xc at *
  generalize cs[1] = yc at *
  simp only [List.map_cons, List.getElem_cons_zero, List.getElem_cons_succ] at hx hy
  split at hc
  case h_2 => cases hc
  case h_1 n z bytes u hel hu =>
   split at hc
   case isTrue => cases hc
   case isFalse hb =>
    have hts' : ts = #[tt, u] ++ ts.extract 2 ts.size := by
     refine Array.ext (by have h1 := (Array.getElem?_eq_some_iff.1 hu).1; simp; omega) fun i h1 h2 => ?_
     rcases Nat.lt_or_ge i 2 with h3 | h3
     ·have : i = 0 ∨ i = 1 := by omega
      rcases this with rfl | rfl
      ·simpa using (Array.getElem?_eq_some_iff.1 hts).2
      ·simpa using (Array.getElem?_eq_some_iff.1 hu).2
     ·rw [Array.getElem_append_right (by simpa using h3)]
      simp [Array.getElem_extract]
      congr 1; omega
    have happ : ∀ (ty' : TypeId) (as : Array Value), Builtin.append_ ts ty' as = Builtin.append_ #[tt, u] ty' as := by
     intro ty' as
     unfold Builtin.append_
     have e0 : ts[0]? = (#[tt, u] : Array TypeId)[0]? := by rw [hts]; rfl
     have e1 : ts[1]? = (#[tt, u] : Array TypeId)[1]? := by rw [hu]; rfl
     simp only [e0, e1]
    have fin : ∀ str, ((str = true ∧ P.underlying u = some .string ∧ n = 1) ∨ (str = false ∧ ∃ e', P.underlying u = some (.slice e'))) → ao = .append x y n bytes str → Does P c w h (builtin .append ts ty consts #[xc, yc]) v h' := by
     rintro str hstr rfl
     have := sound_append2 (P := P) (ty := ty) hh hel (Nat.pos_of_ne_zero hb) hstr hx hy hs
     have h2 := this.does
     simp only [builtin, happ]
     exact h2
    split at hc
    ·rename_i hstr
     split at hc
     case h_2 => cases hc
     case h_1 e hue =>
      split at hc <;> cases hc
      rename_i hn
      subst hn
      simp only [opStep] at hs
      split at hs
      case isFalse => cases hs
      case isTrue hok =>
       split at hs <;> cases hs
       rename_i v' h2 happ'
       have := (sound_appendB (P := P) (ty := ty) hh hel (Nat.pos_of_ne_zero hb) (isStr_spec hstr) hue hx hy hok happ').does
       simp only [builtin, happ]
       exact this
    ·split at hc
     ·cases hc
      rename_i e' hue
      exact fin false (.inr ⟨rfl, e', hue⟩) rfl
     ·cases hc
      rename_i ik hue
      have := (sound_appendZ (P := P) (ty := ty) hh hel (Nat.pos_of_ne_zero hb) hue hx hy hs).does
      simp only [builtin, happ]
      exact this
     ·cases hc
 ·rename_i x y tt hts
  split at hc <;> cases hc
  rename_i nn z bb hel
  have hsz : cs.size = 2 := by rw [← hr.1]; rfl
  have hx := hr.2 0 (by simp) (by omega)
  have hy := hr.2 1 (by simp) (by omega)
  rw [args2 hsz]
  exact (sound_copy hh hel (by simpa using hx) (by simpa using hy) (by simpa [opStep] using hs) hts ty).does
 ·rename_i x tt hts
  split at hc <;> cases hc
  rename_i hel
  have hsz : cs.size = 1 := by rw [← hr.1]; rfl
  have hx := hr.2 0 (by simp) (by omega)
  rw [args1 hsz]
  generalize cs[0] = xc at *
  simp only [List.map_cons, List.getElem_cons_zero] at hx
  obtain ⟨e, hu⟩ := cElem_und hel
  simp only [opStep] at hs
  split at hs <;> cases hs
  ·rename_i hev
   rw [hev] at hx
   exact (sound_capN hh hu hx hts ty).does
  ·rename_i hev
   rw [hev] at hx
   exact (sound_capL hh hu hx hts ty).does
 ·rename_i x tt hts
  split at hc <;> cases hc
  rename_i nn z bb hel
  have hsz : cs.size = 1 := by rw [← hr.1]; rfl
  have hx := hr.2 0 (by simp) (by omega)
  rw [args1 hsz]
  exact (sound_clear hh hel (by simpa using hx) (by simpa [opStep] using hs) hts ty).does
 ·rename_i x _
  cases hc
  have hsz : cs.size = 1 := by rw [← hr.1]; rfl
  have hx := hr.2 0 (by simp) (by omega)
  rw [args1 hsz]
  generalize cs[0] = xc at *
  simp only [List.map_cons, List.getElem_cons_zero] at hx
  simp only [opStep] at hs
  split at hs
  case h_3 => cases hs
  case h_1 id off len sz k hev =>
   split at hs <;> cases hs
   rename_i hcond
   rw [hev] at hx
   exact (sound_usd hh hx hcond.1 hcond.2).does
  case h_2 hev =>
   cases hs
   rw [hev] at hx
   rw [hx.nils_inv]
   exact (Ok.of_same (P := P) hh (s := Builtin.unsafeSliceData_ ts ty #[.slice none 0 0]) rfl (.nilp ..)).does
 ·rename_i x y tt hts
  have hsz : cs.size = 2 := by rw [← hr.1]; rfl
  have hx := hr.2 0 (by simp) (by omega)
  have hy := hr.2 1 (by simp) (by omega)
  rw [args2 hsz]
  generalize cs[0] = xc at *
  generalize cs[1] = yc at *
  simp only [List.map_cons, List.getElem_cons_zero, List.getElem_cons_succ] at hx hy
  split at hc
  case h_2 => cases hc
  case h_1 e hpe =>
   split at hc <;> cases hc
   rename_i hcc
   have hts2 : ts = #[tt, ts[1]'(by omega)] := by
    refine Array.ext (by simp [hcc.2]) fun i h1 h2 => ?_
    have : i = 0 ∨ i = 1 := by simp at h2; omega
    rcases this with rfl | rfl
    ·simpa using (Array.getElem?_eq_some_iff.1 hts).2
    ·rfl
   rw [hts2]
   simp only [opStep] at hs
   split at hs
   case h_3 => cases hs
   case h_2 m hev hev2 =>
    split at hs <;> cases hs
    rename_i hm0
    subst hm0
    rw [hev] at hx
    rw [hev2] at hy
    rw [hx.nilp_inv, hy.int_inv]
    exact (Ok.of_same (P := P) hh (s := Builtin.unsafeString_ #[tt, ts[1]'(by omega)] ty #[.pointer none, .int .i64 0]) rfl (.str _ [])).does
   case h_1 id m hev hev2 =>
    split at hs
    case h_2 => cases hs
    case h_1 es hid =>
     split at hs
     case isFalse => cases hs
     case isTrue hcond =>
      split at hs <;> cases hs
      rename_i hl
      obtain ⟨a1, a2, a3, a4, a5⟩ := hcond
      rw [hev] at hx
      rw [hev2] at hy
      exact (sound_ustr hh hpe hcc.1 hx hy hid a1 a2 a3 a4 a5 hl).does
 ·cases hc
  simp only [opStep] at hs
  split at hs <;> cases hs
  rename_i hm
  exact (sound_mm (P := P) (c := c) (w := w) hh false hr hm ts ty).does
 ·cases hc
  simp only [opStep] at hs
  split at hs <;> cases hs
  rename_i hm
  exact (sound_mm (P := P) (c := c) (w := w) hh true hr hm ts ty).does
 ·rename_i x y tt hts
  split at hc <;> cases hc
  rename_i hk
  have hsz : cs.size = 2 := by rw [← hr.1]; rfl
  have hx := hr.2 0 (by simp) (by omega)
  have hy := hr.2 1 (by simp) (by omega)
  rw [args2 hsz]
  generalize cs[0] = xc at *
  generalize cs[1] = yc at *
  simp only [List.map_cons, List.getElem_cons_zero, List.getElem_cons_succ] at hx hy
  simp only [opStep] at hs
  split at hs
  case h_2 => cases hs
  case h_1 id hev =>
   rw [hev] at hx
   split at hs
   case h_2 => cases hs
   case h_1 es hid =>
    split at hs <;> cases hs
    ·rename_i i hf
     exact (sound_mdel hh hk hid hx hy (.inl ⟨i, hf, rfl⟩) hts ty).does
    ·rename_i hf
     exact (sound_mdel hh hk hid hx hy (.inr ⟨hf, rfl⟩) hts ty).does
 ·cases hc
theorem op_mupd {P : Program} {N c t a w h} (hh : HRel c w h) (ht : TRel N c t a) {tt : TypeId} {κ : Nat} {e : TypeId} (hk : cKey P tt = some (κ, e)) {m k x : Operand} {m' k' x' : Opd} (hm : cOpd N m = some m') (hkk : cOpd N k = some k') (hx : cOpd N x = some x')
  {v h'} (hs : opStep t h (.mupd κ m' k' x') = some (v, h')) : ∃ w', (Instr.mapUpdate tt (a.eval m) (a.eval k) (a.eval x)).run P w = .ok () w' ∧ v = .any ∧ HRel c w' h' ∧ Adv c w h c w' h' := by
 have r1 := opd_rel ht hm
 have r2 := opd_rel ht hkk
 have r3 := opd_rel ht hx
 simp only [opStep] at hs
 split at hs
 case h_2 => cases hs
 case h_1 id hev =>
  rw [hev] at r1
  split at hs
  case h_2 => cases hs
  case h_1 es hid =>
   split at hs
   ·rename_i i hf
    cases hs
    obtain ⟨w', h1, h2, h3⟩ := sound_mupd (P := P) hh hk hid r1 r2 r3 (.inl ⟨i, hf, rfl⟩)
    exact ⟨w', h1, rfl, h2, h3⟩
   ·rename_i hf
    split at hs <;> cases hs
    rename_i heq
    obtain ⟨w', h1, h2, h3⟩ := sound_mupd (P := P) hh hk hid r1 r2 r3 (.inr ⟨hf, heq, rfl⟩)
    exact ⟨w', h1, rfl, h2, h3⟩
   ·cases hs
theorem inv1_spec {P : Program} {name : String} {t : TypeId} (h : (inv1 P name t).isSome = true) : ∃ ti m f, P.info? t = some ti ∧ ti.methods.find? (·.name == name) = some m ∧ m.func = some (f, true) ∧ m.path.toList = [] := by
 unfold inv1 at h
 split at h
 case h_2 => cases h
 case h_1 ti hinfo =>
 split at h
 case h_2 => cases h
 split at h
 case h_2 => cases h
 case h_1 m hfind =>
 split at h
 case h_2 => cases h
 case h_1 g hfun =>
 split at h
 ·rename_i hp
  exact ⟨ti, m, g, hinfo, hfind, hfun, by simpa using hp⟩
 ·cases h
theorem nil_mth {P : Program} (hok : mthsOk P = true) {a : Act} {w : World} {tt : TypeId} {nm : String} {ad : Addr} (hm : mths.contains (tt, nm) = true) {x : Operand} (hx : a.eval x = .func (.method nm) #[.iface tt (.pointer (some ad))] #[]) {dst ty pos after guard} :
  (execOp a.eval ⟨dst, .nilCheck x, ty, pos, after, guard⟩).run P w = .ok (.value (.func (.method nm) #[.iface tt (.pointer (some ad))] #[])) w := by
 have h1 := List.all_eq_true.1 hok (tt, nm) (by simpa using hm)
 obtain ⟨ti, m, f, g1, g2, g3, g4⟩ := inv1_spec h1
 have hdp : 0 < Made.depth := by decide
 obtain ⟨n, hnn⟩ : ∃ n, P.types.size + Made.depth = n + 1 := ⟨P.types.size + Made.depth - 1, by omega⟩
 have h2 : ∀ v, (nilAhead (n + 1) tt v nm).run P w = .ok (some false) w := by
  intro v
  simp [nilAhead, typeInfo, Sem.run_bind, g1, g2, g3, g4, followBlind]
 simp [execOp, hx, Sem.run_bind, hnn, h2]
theorem op_sound {P : Program} {N c t a w h} (hh : HRel c w h) (ht : TRel N c t a) {o : Oper} {ao : AOp} (hc : cOp P N o.op = some ao) {v h'} (hs : opStep t h ao = some (v, h')) : Does P c w h (execOp a.eval o) v h' := by
 obtain ⟨dst, op, ty, pos, after, guard⟩ := o
 simp only at hc
 have hc0 := hc
 cases op <;> simp only [cOp] at hc <;> try (cases hc; done)
 case panic x => cases hc; simp only [opStep] at hs; cases hs
 case move x => split at hc <;> cases hc; rename_i hx; simp only [opStep] at hs; cases hs; exact does_pure hh (opd_rel ht hx)
 case assign x => split at hc <;> cases hc; rename_i hx; simp only [opStep] at hs; cases hs; exact does_pure hh (opd_rel ht hx)
 case pick cc x y =>
  split at hc <;> cases hc
  rename_i h1 h2 h3
  simp only [opStep] at hs
  have r1 := opd_rel ht h1
  split at hs <;> cases hs
  rename_i b hb
  rw [hb] at r1
  refine ⟨.value (if b then a.eval x else a.eval y), w, c, ?_, .inl ⟨_, rfl, ?_⟩, hh, Adv.refl ..⟩
  ·simp [execOp, r1.bool_inv, asBool, Sem.run_bind]
  ·cases b
   ·exact opd_rel ht h3
   ·exact opd_rel ht h2
 case alloc e =>
  split at hc
  case h_2 => cases hc
  case h_1 z hz =>
   split at hc <;> cases hc
   ·simp only [opStep] at hs
    cases hs
    exact (sound_allocT hh e hz).does
   ·simp only [opStep] at hs
    cases hs
    exact (sound_alloc hh e hz).does
 case box e x =>
  split at hc
  case h_2 => cases hc
  case h_1 hx =>
   split at hc <;> cases hc
   ·simp only [opStep] at hs
    split at hs <;> cases hs
    rename_i hcell
    simp only [Bool.and_eq_true, beq_iff_eq] at hcell
    exact (sound_boxT hh e (opd_rel ht hx) hcell.1 hcell.2).does
   ·simp only [opStep] at hs
    split at hs <;> cases hs
    rename_i hcell
    exact (sound_box hh e (opd_rel ht hx) hcell).does
 case build e parts =>
  have : ∃ z ps, ao = .build z ps := by
   split at hc
   ·split at hc
    ·split at hc <;> cases hc; exact ⟨_, _, rfl⟩
    ·cases hc
   ·split at hc
    ·split at hc <;> cases hc; exact ⟨_, _, rfl⟩
    ·cases hc
   ·cases hc
  obtain ⟨z, ps, rfl⟩ := this
  exact (sound_build hh ht hc0 hs).does
 case buildSlice e len parts =>
  have : ∃ n z ps, ao = .bslice len n z ps := by
   split at hc
   ·split at hc
    ·split at hc <;> cases hc; exact ⟨_, _, _, rfl⟩
    ·cases hc
   ·cases hc
  obtain ⟨n, z, ps, rfl⟩ := this
  exact (sound_bslice hh ht hc0 hs).does
 case load e x =>
  split at hc <;> cases hc
  rename_i hk hx
  exact (sound_load hh ht hx hk hs).does
 case store e x y =>
  split at hc <;> cases hc
  rename_i hk hx hy
  obtain ⟨w', h1, h2, h3, h4⟩ := sound_store (P := P) hh ht hx hy hk hs
  exact ⟨.skip, w', c, by simp [execOp, Sem.run_bind, h1], .inr ⟨rfl, h2⟩, h3, h4⟩
 case binOp op tt x y yt =>
  split at hc
  case h_2 => cases hc
  case h_1 x' y' hx hy =>
   split at hc
   ·cases hc
    simp only [opStep] at hs
    split at hs <;> cases hs
    rename_i hb
    exact (sound_bin hh (opd_rel ht hx) (opd_rel ht hy) hb).does
   ·rename_i hsc
    split at hc
    ·cases hc
     simp only [opStep] at hs
     split at hs <;> cases hs
     rename_i hb
     exact (sound_bin hh (opd_rel ht hx) (opd_rel ht hy) hb).does
    ·cases hc
     simp only [opStep] at hs
     split at hs <;> cases hs
     rename_i hb
     exact (sound_bin hh (opd_rel ht hx) (opd_rel ht hy) hb).does
    ·have hop : op = .eql ∨ op = .neq := by cases op <;> simp [scalarOp] at hsc <;> simp
     split at hc
     ·cases hc
      rename_i k hk
      simp only [opStep] at hs
      split at hs <;> cases hs
      rename_i hb
      exact (sound_eq hh hop hk (opd_rel ht hx) (opd_rel ht hy) hb).does
     ·split at hc <;> cases hc
      rename_i ks hk
      simp only [opStep] at hs
      have r1 := opd_rel ht hx
      have r2 := opd_rel ht hy
      split at hs
      case h_2 => cases hs
      case h_1 e1 e2 =>
       split at hs <;> cases hs
       rename_i hb
       rw [e1] at r1
       rw [e2] at r2
       exact (sound_eqG hh hop hk r1 r2 hb).does
 case unOp op tt x =>
  split at hc <;> cases hc
  rename_i hx
  simp only [opStep] at hs
  split at hs <;> cases hs
  rename_i hb
  exact (sound_un hh (opd_rel ht hx) hb).does
 case convert s d x =>
  split at hc
  ·cases hc
   rename_i hx hs1 hs2
   simp only [opStep] at hs
   have r1 := opd_rel ht hx
   split at hs <;> cases hs
   rename_i hb
   rw [hb] at r1
   rename_i k1 k2 _ k3 n
   have : Ok P c w h (convert s d (a.eval x)) (.int k2 (k2.wrap n)) h := Ok.of_same hh (cv := .int k2 (k2.wrap n)) (by rw [r1.int_inv]; simp [convert, run_underlying hs1, run_underlying hs2, Conv.intToInt]) (.int ..)
   exact this.does
  ·cases hc
   rename_i hx hs1 hs2
   simp only [opStep] at hs
   have r1 := opd_rel ht hx
   split at hs <;> cases hs
   rename_i hb
   rw [hb] at r1
   rename_i l
   have : Ok P c w h (convert s d (a.eval x)) (.str l) h := Ok.of_same hh (cv := .string ⟨l.toArray⟩) (by rw [r1.str_inv]; simp [convert, run_underlying hs1, run_underlying hs2]) (.str ..)
   exact this.does
  ·split at hc <;> cases hc
   rename_i hx hs1 hs2 _ hs3
   simp only [opStep] at hs
   split at hs
   case h_2 => cases hs
   case h_1 es he =>
    split at hs <;> cases hs
    rename_i hb
    exact (sound_b2s hh hs1 hs3 hs2 (opd_rel ht hx) he hb).does
  ·split at hc
   case h_2 => cases hc
   case h_1 hx hs1 hs2 _ j hj =>
    split at hc <;> cases hc
    rename_i hne
    simp only [opStep] at hs
    have r1 := opd_rel ht hx
    split at hs
    case h_2 => cases hs
    case h_1 id o hev =>
     split at hs
     case h_2 => cases hs
     case h_1 cs hid =>
      split at hs <;> cases hs
      rename_i ho
      rw [hev] at r1
      exact (sound_cvU hh hs1 hs2 hj hne r1 hid ho).does
  ·split at hc
   case h_2 => cases hc
   case h_1 hx hs1 hs2 _ j hj =>
    cases hc
    simp only [opStep] at hs
    have r1 := opd_rel ht hx
    split at hs
    case h_2 => cases hs
    case h_1 id hev =>
     split at hs
     case h_2 => cases hs
     case h_1 cs hid =>
      split at hs <;> cases hs
      rename_i hty
      rw [hev] at r1
      exact (sound_cvP hh hs1 hs2 hj r1 hid hty).does
  ·cases hc
 case makeInterface ty x =>
  split at hc
  case h_2 => cases hc; simp [opStep] at hs
  case h_1 =>
  cases hc
  rename_i hu hx
  have r1 := opd_rel ht hx
  simp only [opStep] at hs
  split at hs <;> cases hs
  rename_i hev
  rw [hev] at r1
  obtain ⟨p, g1, g2, g3⟩ := r1.ptr_inv
  refine ⟨.value (.iface ty (a.eval x)), w, c, by simp [execOp, Instr.makeInterface, Sem.run_bind, run_underlying hu], .inl ⟨_, rfl, ?_⟩, hh, Adv.refl ..⟩
  rw [g3]
  exact .ifc _ _ _ p g1 g2
 case makeFunc fn first caps =>
  cases fn <;> simp only [cOp] at hc <;> try (cases hc; done)
  case method n =>
   split at hc
   case isFalse => cases hc
   case isTrue hfi =>
   split at hc <;> cases hc
   rename_i x hx
   simp only [opStep] at hs
   split at hs <;> cases hs
   rename_i tt id hev
   have hf : caps = #[] := by simpa using hfi
   subst hf
   obtain ⟨r1, r2⟩ := opds_rel ht hx
   simp only [List.map_cons, List.map_nil, List.length_cons, List.length_nil, Array.size_map] at r1
   obtain ⟨x', hx'⟩ : ∃ x', first = #[x'] := by
    obtain ⟨l⟩ := first
    match l, r1 with
    | [y], _ => exact ⟨y, rfl⟩
    | [], h => simp at h
    | _ :: _ :: _, h => simp at h
   subst hx'
   have r3 := r2 0 (by simp) (by simp)
   simp only [List.map_cons, List.getElem_cons_zero, hev] at r3
   obtain ⟨p, h1, h2, h3⟩ := r3.ifc_inv
   refine ⟨.value (.func (.method n) #[a.eval x'] #[]), w, c, by simp [execOp, Instr.makeFunc, Sem.run_bind], .inl ⟨_, rfl, ?_⟩, hh, Adv.refl ..⟩
   have h3' : a.eval x' = .iface tt (.pointer (some ⟨p.block, p.base, none⟩)) := by simpa using h3
   rw [h3']
   exact .mth _ _ _ _ p h1 h2
  rename_i f
  split at hc
  case isFalse =>
   split at hc
   case isFalse => cases hc
   case isTrue hfi =>
   split at hc <;> cases hc
   rename_i x hx
   simp only [opStep] at hs
   split at hs <;> cases hs
   rename_i id hev
   have hf : caps = #[] := by simpa using hfi
   subst hf
   obtain ⟨r1, r2⟩ := opds_rel ht hx
   simp only [List.map_cons, List.map_nil, List.length_cons, List.length_nil, Array.size_map] at r1
   obtain ⟨x', hx'⟩ : ∃ x', first = #[x'] := by
    obtain ⟨l⟩ := first
    match l, r1 with
    | [y], _ => exact ⟨y, rfl⟩
    | [], h => simp at h
    | _ :: _ :: _, h => simp at h
   subst hx'
   have r3 := r2 0 (by simp) (by simp)
   simp only [List.map_cons, List.getElem_cons_zero, hev] at r3
   obtain ⟨p, h1, h2, h3⟩ := r3.ptr_inv
   refine ⟨.value (.func (.func f) #[a.eval x'] #[]), w, c, by simp [execOp, Instr.makeFunc, Sem.run_bind], .inl ⟨_, rfl, ?_⟩, hh, Adv.refl ..⟩
   have h3' : a.eval x' = .pointer (some ⟨p.block, p.base, none⟩) := by simpa using h3
   rw [h3']
   exact .bnd _ _ _ p h1 h2
  case isTrue hfi =>
   split at hc <;> cases hc
   rename_i hx
   simp only [opStep] at hs
   cases hs
   have hf : first = #[] := by simpa using hfi
   subst hf
   obtain ⟨r1, r2⟩ := opds_rel ht hx
   exact ⟨.value (.func (.func f) #[] (caps.map a.eval)), w, c, by simp [execOp, Instr.makeFunc, Sem.run_bind], .inl ⟨_, rfl, .fn _ _ _ _ r1 r2⟩, hh, Adv.refl ..⟩
 case field tt x f =>
  split at hc <;> cases hc
  rename_i hf hx
  simp only [opStep] at hs
  have r1 := opd_rel ht hx
  split at hs
  case h_2 => cases hs
  case h_1 cs hcs =>
   split at hs <;> cases hs
   rename_i hb
   exact (sound_fld hh hf r1 hcs hb).does
 case fieldAddr tt x f =>
  split at hc
  case h_2 => cases hc
  case h_1 f' n b x' hf hx =>
   split at hc <;> cases hc
   rename_i hn
   exact (sound_fldA hh ht hf hn (opd_rel ht hx) hs).does
 case indexAddr tt x i =>
  have : ∃ x' i' arr sz, ao = .idxA x' i' arr sz := by
   split at hc
   ·split at hc
    ·split at hc <;> cases hc; exact ⟨_, _, _, _, rfl⟩
    ·cases hc
   ·split at hc <;> cases hc; exact ⟨_, _, _, _, rfl⟩
   ·cases hc
  obtain ⟨x', i', arr, sz, rfl⟩ := this
  exact (sound_idxA hh ht hc0 hs).does
 case index tt x i =>
  have : (∃ x' i' len sz agg, ao = .idxG x' i' len sz agg) ∨ (∃ x' i', ao = .idxS x' i') := by
   split at hc
   ·split at hc <;> cases hc; exact .inl ⟨_, _, _, _, _, rfl⟩
   ·cases hc; exact .inr ⟨_, _, rfl⟩
   ·cases hc
  rcases this with ⟨x', i', len, sz, agg, rfl⟩ | ⟨x', i', rfl⟩
  ·exact (sound_idxG hh ht hc0 hs).does
  ·exact (sound_idxS hh ht hc0 hs).does
 case slice tt x lo hi mx =>
  split at hc
  ·rename_i x' lo' hi' hx hlo hhi hmx hu
   cases hc
   have hm : mx = none := by
    cases mx with
    | none => rfl
    | some y => simp only [cOpt] at hmx; cases hy : cOpd N y <;> simp [hy] at hmx
   subst hm
   exact (sound_slcS hh ht hu hx hlo hhi hs).does
  ·rename_i x' lo' hi' mx' e hx hlo hhi hmx hu
   split at hc <;> cases hc
   rename_i hk
   exact (sound_slc hh ht hu hk hx hlo hhi hmx hs).does
  ·rename_i x' lo' hi' n e hx hlo hhi hmx hu
   split at hc
   case h_2 => cases hc
   case h_1 sz b hk =>
    split at hc <;> cases hc
    have hm : mx = none := by
     cases mx with
     | none => rfl
     | some y => simp only [cOpt] at hmx; cases hy : cOpd N y <;> simp [hy] at hmx
    subst hm
    exact (sound_slcA hh ht hu hk hx hlo hhi hs).does
  ·cases hc
 case extract x i =>
  split at hc <;> cases hc
  rename_i hx
  simp only [opStep] at hs
  have r1 := opd_rel ht hx
  split at hs
  case h_2 => cases hs
  case h_1 vs hvs =>
   split at hs <;> cases hs
   rename_i hi
   rw [hvs] at r1
   obtain ⟨cs, hcs, h1, h2⟩ := r1.tup_inv
   obtain ⟨hlt, rfl⟩ := List.getElem?_eq_some_iff.1 hi
   have hlt' : i < cs.size := by omega
   refine ⟨.value cs[i], w, c, ?_, .inl ⟨_, rfl, h2 i hlt hlt'⟩, hh, Adv.refl ..⟩
   simp [execOp, hcs, Instr.extract, Sem.run_bind, hlt']
 case nilCheck x =>
  split at hc <;> cases hc
  rename_i hx hok
  simp only [opStep] at hs
  have r1 := opd_rel ht hx
  have fin : ∀ cv, a.eval x = cv → (∃ p, cv = .pointer (some p)) ∨ (∃ f cs, cv = .func (.func f) #[] cs) → (execOp a.eval ⟨dst, .nilCheck x, ty, pos, after, guard⟩).run P w = .ok (.value cv) w := by
   rintro cv he (⟨p, rfl⟩ | ⟨f, cs, rfl⟩) <;> simp [execOp, he]
  split at hs
  case h_5 tt id nm hv =>
   rw [hv] at r1
   split at hs <;> cases hs
   rename_i hmem
   obtain ⟨p, h1, h2, h3⟩ := r1.mth_inv
   exact ⟨_, w, c, nil_mth hok hmem h3, .inl ⟨_, rfl, h3 ▸ r1⟩, hh, Adv.refl ..⟩
  all_goals (cases hs; try (rename_i hv; rw [hv] at r1))
  ·obtain ⟨p, h1, h2, h3⟩ := r1.ptr_inv
   exact ⟨_, w, c, fin _ rfl (.inl ⟨_, h3⟩), .inl ⟨_, rfl, r1⟩, hh, Adv.refl ..⟩
  ·obtain ⟨p, h1, h2, h3⟩ := r1.eptr_inv
   exact ⟨_, w, c, fin _ rfl (.inl ⟨_, h3⟩), .inl ⟨_, rfl, r1⟩, hh, Adv.refl ..⟩
  ·obtain ⟨b, o, cs, f, h1, h2, h3, h4⟩ := r1.rptr_inv
   exact ⟨_, w, c, fin _ rfl (.inl ⟨_, h4⟩), .inl ⟨_, rfl, r1⟩, hh, Adv.refl ..⟩
  ·obtain ⟨cs, h1, h2⟩ := r1.fn_inv
   exact ⟨_, w, c, fin _ rfl (.inr ⟨_, _, h1⟩), .inl ⟨_, rfl, r1⟩, hh, Adv.refl ..⟩
 case makeSlice tt x y =>
  split at hc <;> cases hc
  exact (sound_mks hh ht hc0 hs).does
 case makeMap tt r =>
  cases r with
  | some r => simp [cOp] at hc
  | none =>
   cases hc
   simp only [opStep] at hs
   cases hs
   exact (sound_mkm hh tt).does
 case mapUpdate tt m k x =>
  split at hc <;> cases hc
  rename_i hk hm hkk hx
  obtain ⟨w', h1, h2, h3, h4⟩ := op_mupd hh ht hk hm hkk hx hs
  exact ⟨.skip, w', c, by simp [execOp, Sem.run_bind, h1], .inr ⟨rfl, h2⟩, h3, h4⟩
 case insert tt m k x =>
  split at hc <;> cases hc
  rename_i hk hm hkk hx
  obtain ⟨w', h1, h2, h3, h4⟩ := op_mupd hh ht hk hm hkk hx hs
  exact ⟨.skip, w', c, by simp [execOp, Sem.run_bind, h1], .inr ⟨rfl, h2⟩, h3, h4⟩
 case lookup tt m k ok =>
  split at hc
  case h_2 => cases hc
  case h_1 hk hm hkk =>
   split at hc <;> cases hc
   rename_i hz
   exact (sound_mget hh hk hz (opd_rel ht hm) (opd_rel ht hkk) ok hs).does
 case call cl =>
  obtain ⟨callee, args, ats⟩ := cl
  cases callee with
  | value f =>
   simp only [cOp] at hc
   split at hc
   ·rename_i hne
    split at hc <;> cases hc
    rename_i x hxs
    simp only [opStep] at hs
    cases hs
    have hr := opds_rel ht hxs
    have hsz : (args.map a.eval).size = 1 := by rw [← hr.1]; rfl
    have hx := hr.2 0 (by simp) (by omega)
    simp only [List.map_cons, List.getElem_cons_zero] at hx
    have hargs := args1 hsz
    cases f with
    | func f =>
     have hrun := noEsc_run hne (args.map a.eval)[0] w
     refine ⟨.value (args.map a.eval)[0], w, c, ?_, .inl ⟨_, rfl, hx⟩, hh, Adv.refl ..⟩
     rw [← hargs] at hrun
     have hev : a.eval (.func f) = .func (.func f) #[] #[] := rfl
     simp only [execOp, resolve, Sem.run_bind, hev, Deferred.ofValue, Sem.run_pure, Result.andThen_ok, invoke]
     simpa using hrun
    | _ => simp [isNoEsc] at hne
   ·split at hc <;> cases hc
    simp [opStep] at hs
  | invoke r m =>
   cases r with
   | tmp k =>
    simp only [cOp] at hc
    split at hc
    ·split at hc <;> cases hc
     simp [opStep] at hs
    ·cases hc
   | const v => simp [cOp] at hc
   | func f => simp [cOp] at hc
   | global g => simp [cOp] at hc
  | builtin b =>
   simp only [cOp] at hc
   split at hc
   case h_2 => cases hc
   case h_1 xs hxs =>
    obtain ⟨r, w', c', h1, h2⟩ := sound_builtin (P := P) (ty := ty) hh ht hxs hc hs (args.map fun | .const _ => true | _ => false)
    refine ⟨r, w', c', ?_, h2⟩
    simp only [execOp, resolve, Sem.run_bind, Sem.run_pure, Result.andThen_ok, invoke]
    exact h1
end Sx
namespace Sx
open Go
set_option linter.unusedSimpArgs false
set_option linter.unusedVariables false
def Goes (P : Program) (b : Frame) (F : Ending → World → Frame → Prop) (k : List Item) (cs : List Frame) (a : Act) (w : World) : Prop :=
 ∃ e w' fr, F e w' fr ∧ Comes P (lone (b.atR a k) cs w) (lone fr cs w') e
theorem Goes.step {P b F k k' cs a a' w w'} (hs : step P (lone (b.atR a k) cs w) = .next (lone (b.atR a' k') cs w')) (h : Goes P b F k' cs a' w') : Goes P b F k cs a w := by
 obtain ⟨e, w2, fr, h1, h2⟩ := h
 exact ⟨e, w2, fr, h1, Comes.of_steps (.one hs) h2⟩
theorem Goes.steps {P b F k k' cs a a' w w'} (hs : Steps P (lone (b.atR a k) cs w) (lone (b.atR a' k') cs w')) (h : Goes P b F k' cs a' w') : Goes P b F k cs a w := by
 obtain ⟨e, w2, fr, h1, h2⟩ := h
 exact ⟨e, w2, fr, h1, Comes.of_steps hs h2⟩
inductive Where where
 | fn (f : FuncId)
 | fnD (f : FuncId) (ds : List Deferred)
 | round (f : FuncId) (id : Nat)
instance (n : Nat) : OfNat Where n := ⟨.fn n⟩
def Where.f : Where → FuncId
 | .fn f => f
 | .fnD f _ => f
 | .round f _ => f
def Where.ds : Where → List Deferred
 | .fnD _ ds => ds
 | _ => []
def Where.isFn : Where → Prop
 | .round _ _ => False
 | _ => True
def Where.ok (c : Ctx) (b : Frame) : Where → Prop
 | .round _ id => b.kind = .normal ∧ ∃ p, c.m id = some p ∧ b.roundOf = some p.block
 | _ => b.kind = .normal ∧ b.roundOf = none
def TriR (H0 : List O) (c0 : Ctx) (w0 : World) (Post : V → List O → Prop) (e : Ending) (w' : World) : Prop :=
 ∃ v H' c' cv, Post v H' ∧ e = .returned cv ∧ VRel c'.ro c'.m v cv ∧ HRel c' w' H' ∧ Adv c0 w0 H0 c' w' H'
def Callable (P : Program) (f : FuncId) : Prop := ∃ fn, P.funcs[f]? = some fn ∧ fn.body.isSome = true ∧ (fn.name == "runtime.NumGoroutine") = false
def Tri (P : Program) (f : FuncId) (args : List V) (H : List O) (Post : V → List O → Prop) : Prop :=
 Callable P f ∧ ∀ c w cargs, HRel c w H → VRels c.ro c.m args cargs → Calls P f cargs w (TriR H c w Post)
theorem Tri.mono {P f args H Post Post'} (h : Tri P f args H Post) (hp : ∀ v H', Post v H' → Post' v H') : Tri P f args H Post' :=
 ⟨h.1, fun c w cargs hh hv => (h.2 c w cargs hh hv).mono fun e w' ⟨v, H', c', cv, h1, h2⟩ => ⟨v, H', c', cv, hp _ _ h1, h2⟩⟩
def FnR (P : Program) (f : FuncId) (ds : List Deferred) (H0 : List O) (c0 : Ctx) (w0 : World) (Post : V → List O → Prop) (e : Ending) (w' : World) (fr : Frame) : Prop :=
 ∃ c h fn, (∃ cv, e = .returned cv) ∧ fr.mode = .returning ∧ fr.defers = ds ∧ fr.kind = .normal ∧ fr.fn = f ∧ P.funcs[f]? = some fn ∧ HRel c w' h ∧ Adv c0 w0 H0 c w' h ∧
  ∀ w2, HRel c w2 h → ∃ cv v H' c', (results fn fr.tmps).run P w2 = .ok cv w2 ∧ Post v H' ∧ VRel c'.ro c'.m v cv ∧ HRel c' w2 H' ∧
   ∀ c1 w1 H1, HRel c1 w1 H1 → H1.length ≤ H0.length → Adv c1 w1 H1 c w2 h → Adv c1 w1 H1 c' w2 H'
structure Env where
 P : Program
 f : Where
 N : Nat
 H0 : List O
 Post : V → List O → Prop
inductive IRel (P : Program) (N : Nat) : AItem → Item → Prop
 | code {c ac} (h : cCode P N c = some ac) : IRel P N (.code ac) (.code c)
 | ops {l ops todo} (h : todo.map (fun i => (ops[i]?).bind (cOper P N ops)) = l.map some) : IRel P N (.ops l) (.inRegion ops todo)
 | endB {id} : IRel P N (.endB id) (.inBlock id)
 | inLoop {c ac} (h : cCode P N c = some ac) : IRel P N (.inLoop ac) (.inLoop c)
 | beginR : IRel P N .beginR .beginRound
inductive KRel (P : Program) (N : Nat) : List AItem → List Item → Prop
 | nil : KRel P N [] []
 | cons {x y k l} (h : IRel P N x y) (t : KRel P N k l) : KRel P N (x :: k) (y :: l)
def Env.F (E : Env) (c0 : Ctx) (w0 : World) : Ending → World → Frame → Prop :=
 match E.f with
 | .fn f => FnR E.P f [] E.H0 c0 w0 E.Post
 | .fnD f ds => FnR E.P f ds E.H0 c0 w0 E.Post
 | .round _ _ => fun e w' fr => ∃ w2 v, e = .returned v ∧ TriR E.H0 c0 w0 E.Post e w2 ∧ ∀ c cs, step E.P (lone fr (c :: cs) w') = .next (lone (c.finish v) cs w2)
def Run (E : Env) (cfg : Cfg) : Prop :=
 ∀ c0 w0, HRel c0 w0 E.H0 → ∀ c w a, Adv c0 w0 E.H0 c w cfg.h → HRel c w cfg.h → TRel E.N c cfg.t a → a.defers = E.f.ds →
  ∀ (b : Frame) items cs, b.fn = E.f.f → E.f.ok c0 b → KRel E.P E.N cfg.k items → Goes E.P b (E.F c0 w0) items cs a w
theorem unwind_rel {P N id} : ∀ {k : List AItem} {items : List Item} {k1 : List AItem}, unwind id k = some k1 → KRel P N k items → ∃ items1, exitTo id items = some items1 ∧ KRel P N k1 items1
 | [], items, k1, h, _ => by simp [unwind] at h
 | x :: k, y :: items, k1, h, .cons hx hk => by
  cases hx with
  | code hc => simp only [unwind] at h; simp only [exitTo]; exact unwind_rel h hk
  | ops hc => simp only [unwind] at h; simp only [exitTo]; exact unwind_rel h hk
  | inLoop hc => simp only [unwind] at h; simp only [exitTo]; exact unwind_rel h hk
  | beginR => simp only [unwind] at h; simp only [exitTo]; exact unwind_rel h hk
  | @endB j =>
   simp only [unwind] at h
   by_cases e : j = id
   ·simp only [e, if_true] at h
    cases h
    exact ⟨items, by simp [exitTo, e], hk⟩
   ·simp only [if_neg e] at h
    obtain ⟨i1, h1, h2⟩ := unwind_rel h hk
    exact ⟨i1, by simp [exitTo, e, h1], h2⟩
def GuardOk (N : Nat) (ops : Array Oper) (o : Oper) : Option (Nat × Bool) → Prop
 | none => o.guard = none
 | some (j, want) => j < N ∧ ∃ i, o.guard = some (i, want) ∧ (ops[i]?).bind (·.dst) = some j
theorem cOper_spec {P N ops o d g ao} (h : cOper P N ops o = some ⟨d, g, ao⟩) : cOp P N o.op = some ao ∧ o.dst = d ∧ (∀ x, d = some x → x < N) ∧ GuardOk N ops o g := by
 unfold cOper at h
 simp only [Option.bind_eq_bind, Option.pure_def] at h
 cases hg : o.guard with
 | none =>
  cases hd : o.dst with
  | none =>
   cases ho : cOp P N o.op with
   | none => simp [hg, hd, ho] at h
   | some a => simp [hg, hd, ho] at h; obtain ⟨rfl, rfl, rfl⟩ := h; exact ⟨rfl, rfl, (fun x h => by cases h), hg⟩
  | some x =>
   by_cases hx : x < N
   ·cases ho : cOp P N o.op with
    | none => simp [hg, hd, ho, hx] at h
    | some a => simp [hg, hd, ho, hx] at h; obtain ⟨rfl, rfl, rfl⟩ := h; exact ⟨rfl, rfl, (fun y h => by cases h; exact hx), hg⟩
   ·simp [hg, hd, hx] at h
 | some jb =>
  obtain ⟨i, want⟩ := jb
  cases hj : (ops[i]?).bind (·.dst) with
  | none => simp [hg, hj] at h
  | some j =>
   by_cases hjN : j < N
   ·cases hd : o.dst with
    | none =>
     cases ho : cOp P N o.op with
     | none => simp [hg, hd, ho, hj, hjN] at h
     | some a => simp [hg, hd, ho, hj, hjN] at h; obtain ⟨rfl, rfl, rfl⟩ := h; exact ⟨rfl, rfl, (fun x h => by cases h), hjN, i, hg, hj⟩
    | some x =>
     by_cases hx : x < N
     ·cases ho : cOp P N o.op with
      | none => simp [hg, hd, ho, hx, hj, hjN] at h
      | some a => simp [hg, hd, ho, hx, hj, hjN] at h; obtain ⟨rfl, rfl, rfl⟩ := h; exact ⟨rfl, rfl, (fun y h => by cases h; exact hx), hjN, i, hg, hj⟩
     ·simp [hg, hd, hx, hj, hjN] at h
   ·simp [hg, hj, hjN] at h
theorem wanted_of {N c t a ops} {o : Oper} (ht : TRel N c t a) {g : Option (Nat × Bool)} (hg : GuardOk N ops o g) :
  (g = none → Region.wanted o (yielded ops a.tmps) = true) ∧ (∀ j want v, g = some (j, want) → t j = .bool v → Region.wanted o (yielded ops a.tmps) = decide (v = want)) ∧
  (∀ j want, g = some (j, want) → t j = .tup [] → Region.wanted o (yielded ops a.tmps) = false) := by
 refine ⟨fun h => ?_, fun j want v h hv => ?_, fun j want h hv => ?_⟩
 ·subst h; simp only [GuardOk] at hg; simp [Region.wanted, hg]
 ·subst h
  obtain ⟨hj, i, h1, h2⟩ := hg
  have := ht.rel j
  rw [hv] at this
  have hb := this.bool_inv
  have hlt : j < a.tmps.size := by rw [ht.size]; exact hj
  have hb' : a.tmps[j]? = some (.bool v) := by
   rw [Array.getD_eq_getD_getElem?, Array.getElem?_eq_getElem hlt] at hb
   rw [Array.getElem?_eq_getElem hlt]; simpa using hb
  simp only [Region.wanted, h1, yielded, h2, Option.bind_some, hb']
  by_cases e : v = want
  ·subst e; simp
  ·simp [e]
 ·subst h
  obtain ⟨hj, i, h1, h2⟩ := hg
  have := ht.rel j
  rw [hv] at this
  have hlt : j < a.tmps.size := by rw [ht.size]; exact hj
  rw [Array.getD_eq_getD_getElem?, Array.getElem?_eq_getElem hlt, Option.getD_some] at this
  have hb' : ∃ cs, a.tmps[j]? = some (.tuple cs) := by
   rw [Array.getElem?_eq_getElem hlt]
   generalize a.tmps[j] = x at this
   cases this
   exact ⟨_, rfl⟩
  obtain ⟨cs, hb'⟩ := hb'
  simp [Region.wanted, h1, yielded, h2, hb']
theorem region_finish {b : Frame} {a : Act} {ops : Array Oper} {i : Nat} {rest : List Nat} {k : List Item} {o : Oper} (ho : ops[i]? = some o) (v : Value) :
  (b.atR a (.inRegion ops (i :: rest) :: k)).finish v = b.atR (a.put o.dst v) (.inRegion ops rest :: k) := by
 rw [Frame.finish_atR, ho]; rfl
theorem ops_cons {P N ops} {i : Nat} {todo : List Nat} {x : AOper} {l : List AOper} (h : (i :: todo).map (fun i => (ops[i]?).bind (cOper P N ops)) = (x :: l).map some) :
  (∃ o, ops[i]? = some o ∧ cOper P N ops o = some x) ∧ todo.map (fun i => (ops[i]?).bind (cOper P N ops)) = l.map some := by
 simp only [List.map_cons, List.cons.injEq] at h
 refine ⟨?_, h.2⟩
 cases ho : ops[i]? with
 | none => simp [ho] at h
 | some o => exact ⟨o, rfl, by simpa [ho] using h.1⟩
theorem cOp_nodefer {P N op ao} (h : cOp P N op = some ao) : ∀ c, op ≠ .defer c := by
 rintro c rfl; simp [cOp] at h
theorem stepGR {P : Program} {N : Nat} {b : Frame} {a : Act} {k : List Item} {cs : List Frame} {w : World} {ops : Array Oper} {i : Nat} {rest : List Nat} {o : Oper} {ao} (ho : ops[i]? = some o) (hw : Region.wanted o (yielded ops a.tmps) = true) (hc : cOp P N o.op = some ao) :
  stepG P true { frame := b.atR a (.inRegion ops (i :: rest) :: k), callers := cs, status := .running, dying := none } w = stepG.apply P true (b.atR a (.inRegion ops (i :: rest) :: k)) cs none (execOp a.eval o) w := by
 rw [stepGR_op ho hw, Oper.semAt_eq _ _ _ (cOp_nodefer hc)]
theorem op_goes {E : Env} {c0 w0} (h0 : HRel c0 w0 E.H0) {c w a t h} (hadv : Adv c0 w0 E.H0 c w h) (hh : HRel c w h) (ht : TRel E.N c t a) (hd : a.defers = E.f.ds) {b : Frame} {cs items ops i todo l k d g ao} (hb : b.fn = E.f.f) (hbk : E.f.ok c0 b)
  {o : Oper} (ho : ops[i]? = some o) (hco : cOper E.P E.N ops o = some ⟨d, g, ao⟩) (hk : KRel E.P E.N (.ops l :: k) (.inRegion ops todo :: items)) (hw : Region.wanted o (yielded ops a.tmps) = true) {v h'} (hs : opStep t h ao = some (v, h'))
  (hrun : Run E ⟨.ops l :: k, put t d v, h'⟩) : Goes E.P b (E.F c0 w0) (.inRegion ops (i :: todo) :: items) cs a w := by
 obtain ⟨hcp, hdst, hdN, hgd⟩ := cOper_spec hco
 obtain ⟨r, w', c', h1, h2, h3, h4⟩ := op_sound (P := E.P) hh ht hcp hs
 have hg := stepGR (P := E.P) (b := b) (k := items) (cs := cs) (w := w) (rest := todo) ho hw hcp
 have hfin := fun v => region_finish (b := b) (a := a) (rest := todo) (k := items) ho v
 have ht' := ht.mono h4.m h4.ro
 rcases h2 with ⟨cv, rfl, hv⟩ | ⟨rfl, rfl⟩
 ·refine Goes.step (a' := a.put o.dst cv) (k' := .inRegion ops todo :: items) (w' := w') (step_lone_go ?_) ?_
  ·rw [hg, ← hfin]; simp [stepG.apply, h1]
  ·refine hrun c0 w0 h0 c' w' _ (hadv.trans h0 h4) h3 (by rw [hdst]; exact ht'.put d hdN hv) ?_ b _ cs hb hbk hk
   cases o.dst <;> exact hd
 ·refine Goes.step (a' := a.put o.dst undef) (k' := .inRegion ops todo :: items) (w' := w') (step_lone_go ?_) ?_
  ·rw [hg, ← hfin]; simp [stepG.apply, h1]
  ·refine hrun c0 w0 h0 c' w' _ (hadv.trans h0 h4) h3 (by rw [hdst]; exact ht'.put d hdN (.any ..)) ?_ b _ cs hb hbk hk
   cases o.dst <;> exact hd
theorem region_rel {P N} {ops : Array Oper} {l : List AOper} (h : ops.toList.mapM (cOper P N ops) = some l) : (List.range ops.size).map (fun i => (ops[i]?).bind (cOper P N ops)) = l.map some := by
 obtain ⟨h1, h2⟩ := mapM_some _ _ _ h
 refine List.ext_getElem (by simpa using h1) fun i a b => ?_
 have hi : i < ops.size := by simpa using a
 have := h2 i (by simpa using hi) (by simpa using b)
 simp [hi]
 simpa using this
section inv
variable {P : Program} {N : Nat} {c : Code}
theorem cCode_skip (h : cCode P N c = some .skip) : c = .skip := by
 cases c <;> try (simp only [cCode] at h; first | rfl | (cases h; done) | (repeat (first | (cases h; done) | split at h)) <;> cases h)
 rename_i id ops d; cases d <;> simp only [cCode] at h <;> split at h <;> cases h
theorem cCode_seq {a b} (h : cCode P N c = some (.seq a b)) : ∃ x y, c = .seq x y ∧ cCode P N x = some a ∧ cCode P N y = some b := by
 cases c
 case region id ops d => cases d <;> simp only [cCode] at h <;> split at h <;> cases h
 all_goals (simp only [cCode] at h; first | (cases h; done) | (repeat (first | (cases h; done) | split at h)) <;> cases h)
 exact ⟨_, _, rfl, by assumption, by assumption⟩
theorem cCode_region {l} (h : cCode P N c = some (.region l)) : ∃ id ops, c = .region id ops false ∧ ops.toList.mapM (cOper P N ops) = some l := by
 cases c
 case region id ops d =>
  cases d <;> simp only [cCode] at h <;> split at h <;> cases h
  exact ⟨_, _, rfl, by assumption⟩
 all_goals (simp only [cCode] at h; first | (cases h; done) | (repeat (first | (cases h; done) | split at h)) <;> cases h)
theorem cCode_drawn {l} (h : cCode P N c = some (.drawn l)) : ∃ id ops, c = .region id ops true ∧ ops.toList.zipIdx.mapM (cDraw1 P N ops) = some l := by
 cases c
 case region id ops d =>
  cases d <;> simp only [cCode] at h <;> split at h <;> cases h
  exact ⟨_, _, rfl, by assumption⟩
 all_goals (simp only [cCode] at h; first | (cases h; done) | (repeat (first | (cases h; done) | split at h)) <;> cases h)
theorem cCode_cond {o a b} (h : cCode P N c = some (.cond o a b)) : ∃ o' x y, c = .cond o' x y ∧ cOpd N o' = some o ∧ cCode P N x = some a ∧ cCode P N y = some b := by
 cases c
 case region id ops d => cases d <;> simp only [cCode] at h <;> split at h <;> cases h
 all_goals (simp only [cCode] at h; first | (cases h; done) | (repeat (first | (cases h; done) | split at h)) <;> cases h)
 exact ⟨_, _, _, rfl, by assumption, by assumption, by assumption⟩
theorem cCode_block {id a} (h : cCode P N c = some (.block id a)) : ∃ x, c = .block id x ∧ cCode P N x = some a := by
 cases c
 case region id ops d => cases d <;> simp only [cCode] at h <;> split at h <;> cases h
 all_goals (simp only [cCode] at h; first | (cases h; done) | (repeat (first | (cases h; done) | split at h)) <;> cases h)
 exact ⟨_, rfl, by assumption⟩
theorem cCode_loop {a} (h : cCode P N c = some (.loop a)) : ∃ x, c = .loop x ∧ cCode P N x = some a := by
 cases c
 case region id ops d => cases d <;> simp only [cCode] at h <;> split at h <;> cases h
 all_goals (simp only [cCode] at h; first | (cases h; done) | (repeat (first | (cases h; done) | split at h)) <;> cases h)
 exact ⟨_, rfl, by assumption⟩
theorem cCode_exit {id} (h : cCode P N c = some (.exit id)) : c = .exit id := by
 cases c
 case region id ops d => cases d <;> simp only [cCode] at h <;> split at h <;> cases h
 all_goals (simp only [cCode] at h; first | (cases h; rfl) | (cases h; done) | (repeat (first | (cases h; done) | split at h)) <;> cases h)
theorem cCode_ret (h : cCode P N c = some .ret) : c = .ret := by
 cases c
 case region id ops d => cases d <;> simp only [cCode] at h <;> split at h <;> cases h
 all_goals (simp only [cCode] at h; first | rfl | (cases h; done) | (repeat (first | (cases h; done) | split at h)) <;> cases h)
end inv
theorem opBr_run {E : Env} {c0 w0} (h0 : HRel c0 w0 E.H0) {c w a t h} (hadv : Adv c0 w0 E.H0 c w h) (hh : HRel c w h) (ht : TRel E.N c t a) (hd : a.defers = E.f.ds) {b : Frame} {cs items ops i todo l k d g ao} (hb : b.fn = E.f.f) (hbk : E.f.ok c0 b)
  {o : Oper} (ho : ops[i]? = some o) (hco : cOper E.P E.N ops o = some ⟨d, g, ao⟩) (hl : todo.map (fun i => (ops[i]?).bind (cOper E.P E.N ops)) = l.map some) (hk : KRel E.P E.N k items) (hw : Region.wanted o (yielded ops a.tmps) = true) {c'}
  (hs : opBr t h d ao l k = .one c') (hrun : Run E c') : Goes E.P b (E.F c0 w0) (.inRegion ops (i :: todo) :: items) cs a w := by
 unfold opBr at hs
 split at hs <;> cases hs
 rename_i v h' hop
 exact op_goes h0 hadv hh ht hd hb hbk ho hco (.cons (.ops hl) hk) hw hop hrun
def Br.ok (E : Env) (cfg : Cfg) : Br → Prop
 | .one c => Run E c
 | .ite p a b => (p = true → (match a with | .one c => Run E c | _ => Run E cfg)) ∧ (p = false → (match b with | .one c => Run E c | _ => Run E cfg))
 | .stop => Run E cfg
theorem Run.step {E : Env} {cfg : Cfg} (hr : (step1 cfg).ok E cfg) : Run E cfg := by
 intro c0 w0 h0 c w a hadv hh ht hd b items cs hb hbk hk
 obtain ⟨k, t, h⟩ := cfg
 simp only at hadv hh ht hk
 have hstop : Run E ⟨k, t, h⟩ → Goes E.P b (E.F c0 w0) items cs a w := fun hr => hr c0 w0 h0 c w a hadv hh ht hd b items cs hb hbk hk
 unfold step1 at hr
 split at hr
 ·rename_i k' t' h' heq; cases heq
  cases hk with | cons hx hk => cases hx with | code hc =>
  cases cCode_skip hc
  exact Goes.step stepR_skip (hr c0 w0 h0 c w a hadv hh ht hd b _ cs hb hbk hk)
 ·rename_i x y k' t' h' heq; cases heq
  cases hk with | cons hx hk => cases hx with | code hc =>
  obtain ⟨p, q, rfl, h1, h2⟩ := cCode_seq hc
  exact Goes.step stepR_seq (hr c0 w0 h0 c w a hadv hh ht hd b _ cs hb hbk (.cons (.code h1) (.cons (.code h2) hk)))
 ·rename_i l k' t' h' heq; cases heq
  cases hk with | cons hx hk => cases hx with | code hc =>
  obtain ⟨id, ops, rfl, h1⟩ := cCode_region hc
  exact Goes.step stepR_region (hr c0 w0 h0 c w a hadv hh ht hd b _ cs hb hbk (.cons (.ops (region_rel h1)) hk))
 ·rename_i id x k' t' h' heq; cases heq
  cases hk with | cons hx hk => cases hx with | code hc =>
  obtain ⟨p, rfl, h1⟩ := cCode_block hc
  exact Goes.step stepR_block (hr c0 w0 h0 c w a hadv hh ht hd b _ cs hb hbk (.cons (.code h1) (.cons .endB hk)))
 ·rename_i id k' t' h' heq; cases heq
  split at hr
  ·rename_i k1 hu
   cases hk with | cons hx hk => cases hx with | code hc =>
   cases cCode_exit hc
   obtain ⟨i1, h1, h2⟩ := unwind_rel hu hk
   exact Goes.step (stepR_exit h1) (hr c0 w0 h0 c w a hadv hh ht hd b _ cs hb hbk h2)
  ·exact hstop hr
 ·rename_i o x y k' t' h' heq; cases heq
  split at hr
  ·rename_i v hv
   cases hk with | cons hx hk => cases hx with | code hc =>
   obtain ⟨o', p, q, rfl, h1, h2, h3⟩ := cCode_cond hc
   have r1 := opd_rel ht h1
   rw [hv] at r1
   cases v
   ·exact Goes.step (stepR_cond r1.bool_inv) (hr.2 rfl c0 w0 h0 c w a hadv hh ht hd b _ cs hb hbk (.cons (.code (by simpa using h3)) hk))
   ·exact Goes.step (stepR_cond r1.bool_inv) (hr.1 rfl c0 w0 h0 c w a hadv hh ht hd b _ cs hb hbk (.cons (.code (by simpa using h2)) hk))
  ·exact hstop hr
 ·rename_i id k' t' h' heq; cases heq
  cases hk with | cons hx hk => cases hx with | endB =>
  exact Goes.step stepR_inBlock (hr c0 w0 h0 c w a hadv hh ht hd b _ cs hb hbk hk)
 ·rename_i k' t' h' heq; cases heq
  cases hk with | cons hx hk => cases hx with | @ops _ ops todo hl =>
  have : todo = [] := by cases todo with | nil => rfl | cons x xs => simp at hl
  subst this
  exact Goes.step stepR_region_end (hr c0 w0 h0 c w a hadv hh ht hd b _ cs hb hbk hk)
 ·rename_i d ao l k' t' h' heq; cases heq
  cases hbr : opBr t h d ao l k' with
  | one c' =>
   rw [hbr] at hr
   cases hk with | cons hx hk => cases hx with | @ops _ ops todo hl =>
   cases todo with
   | nil => simp at hl
   | cons i todo =>
    obtain ⟨⟨o, ho, hco⟩, hl'⟩ := ops_cons hl
    obtain ⟨_, hdst, hdN, hgd⟩ := cOper_spec hco
    exact opBr_run h0 hadv hh ht hd hb hbk ho hco hl' hk ((wanted_of ht hgd).1 rfl) hbr hr
  | ite p x y => unfold opBr at hbr; split at hbr <;> cases hbr
  | stop => rw [hbr] at hr; exact hstop hr
 ·rename_i d j want ao l k' t' h' heq; cases heq
  split at hr
  ·rename_i v hv
   by_cases hvw : (v == want) = true
   ·have hr1 := hr.1 hvw
    cases hbr : opBr t h d ao l k' with
    | one c' =>
     rw [hbr] at hr1
     cases hk with | cons hx hk => cases hx with | @ops _ ops todo hl =>
     cases todo with
     | nil => simp at hl
     | cons i todo =>
      obtain ⟨⟨o, ho, hco⟩, hl'⟩ := ops_cons hl
      obtain ⟨_, hdst, hdN, hgd⟩ := cOper_spec hco
      exact opBr_run h0 hadv hh ht hd hb hbk ho hco hl' hk (by rw [(wanted_of ht hgd).2.1 j want v rfl hv]; simpa using hvw) hbr hr1
    | ite p x y => unfold opBr at hbr; split at hbr <;> cases hbr
    | stop => rw [hbr] at hr1; exact hstop hr1
   ·have hr1 := hr.2 (by simpa using hvw)
    cases hk with | cons hx hk => cases hx with | @ops _ ops todo hl =>
    cases todo with
    | nil => simp at hl
    | cons i todo =>
     obtain ⟨⟨o, ho, hco⟩, hl'⟩ := ops_cons hl
     obtain ⟨_, hdst, hdN, hgd⟩ := cOper_spec hco
     have hnw : Region.wanted o (yielded ops a.tmps) = false := by rw [(wanted_of ht hgd).2.1 j want v rfl hv]; simpa using hvw
     refine Goes.step (stepR_op_skip (by simp [ho, hnw])) (hr1 c0 w0 h0 c w _ hadv hh ?_ ?_ b _ cs hb hbk (.cons (.ops hl') hk))
     ·simp only [ho, Option.bind_some, hdst]
      exact ht.put d hdN (.tup _ _ _ rfl fun i h => by simp at h)
     ·simp only [ho, Option.bind_some]; cases o.dst <;> exact hd
  ·rename_i hv
   cases hk with | cons hx hk => cases hx with | @ops _ ops todo hl =>
   cases todo with
   | nil => simp at hl
   | cons i todo =>
    obtain ⟨⟨o, ho, hco⟩, hl'⟩ := ops_cons hl
    obtain ⟨_, hdst, hdN, hgd⟩ := cOper_spec hco
    have hnw : Region.wanted o (yielded ops a.tmps) = false := (wanted_of ht hgd).2.2 j want rfl hv
    refine Goes.step (stepR_op_skip (by simp [ho, hnw])) (hr c0 w0 h0 c w _ hadv hh ?_ ?_ b _ cs hb hbk (.cons (.ops hl') hk))
    ·simp only [ho, Option.bind_some, hdst]
     exact ht.put d hdN (.tup _ _ _ rfl fun i h => by simp at h)
    ·simp only [ho, Option.bind_some]; cases o.dst <;> exact hd
  ·exact hstop hr
 ·exact hstop hr
end Sx
namespace Sx
open Go
set_option linter.unusedSimpArgs false
set_option linter.unusedVariables false
def goes (t : T) : Option (Nat × Bool) → Prop
 | none => True
 | some (j, want) => t j = .bool want
theorem VRels.append {ro m} {a b : List V} {x y : Array Value} (h : VRels ro m a x) (k : VRels ro m b y) : VRels ro m (a ++ b) (x ++ y) := by
 refine ⟨by simp [h.1, k.1], fun i p q => ?_⟩
 rcases Nat.lt_or_ge i a.length with h1 | h1
 ·rw [List.getElem_append_left h1, Array.getElem_append_left (by rw [← h.1]; exact h1)]; exact h.2 _ _ _
 ·rw [List.getElem_append_right h1, Array.getElem_append_right (by rw [← h.1]; exact h1)]
  have e : i - x.size = i - a.length := by rw [h.1]
  simp only [e]
  exact k.2 _ _ _
theorem lookup_mem {α β : Type} [BEq α] [LawfulBEq α] {a : α} {b : β} : ∀ {l : List (α × β)}, l.lookup a = some b → (a, b) ∈ l
 | (x, y) :: l, h => by
  simp only [List.lookup] at h
  split at h
  ·rename_i e; cases h; rw [LawfulBEq.eq_of_beq e]; exact List.mem_cons_self
  ·exact List.mem_cons_of_mem _ (lookup_mem h)
theorem cOp_call {P : Program} {N : Nat} {op : Op} {fo : Opd} {args : List Opd} (hcp : cOp P N op = some (.call fo args)) :
  (∃ fo' args' ats, op = .call { callee := .value fo', args := args', argTypes := ats } ∧ cOpd N fo' = some fo ∧ cOpds N args' = some args) ∨
  (∃ i name args' ats xs, op = .call { callee := .invoke (.tmp i) name, args := args', argTypes := ats } ∧ i < N ∧ cOpds N args' = some xs ∧ fo = .inv i (invTbl P name) ∧ args = .unw i :: xs) := by
 cases op
 case makeMap mt mr => cases mr <;> simp [cOp] at hcp
 case call cl =>
  obtain ⟨callee, cargs, ats⟩ := cl
  cases callee with
  | value f' =>
   simp only [cOp] at hcp
   split at hcp
   ·split at hcp <;> cases hcp
   ·split at hcp <;> cases hcp
    exact .inl ⟨_, _, _, rfl, by assumption, by assumption⟩
  | invoke r m =>
   cases r with
   | tmp i =>
    simp only [cOp] at hcp
    split at hcp
    ·split at hcp <;> cases hcp
     exact .inr ⟨_, _, _, _, _, rfl, by assumption, by assumption, rfl, rfl⟩
    ·cases hcp
   | const v => simp [cOp] at hcp
   | func f => simp [cOp] at hcp
   | global g => simp [cOp] at hcp
  | builtin bb =>
   simp only [cOp] at hcp
   split at hcp
   case h_2 => cases hcp
   case h_1 xs hxs =>
    unfold cBuiltin at hcp
    repeat' split at hcp
    all_goals simp at hcp
 case makeFunc fn first caps => cases fn <;> simp only [cOp] at hcp <;> (repeat' split at hcp) <;> simp at hcp
 all_goals (simp only [cOp] at hcp; try (repeat' split at hcp))
 all_goals (try simp at hcp)
theorem call_exec {P : Program} {N : Nat} {op : Op} {fo : Opd} {args : List Opd} (hcp : cOp P N op = some (.call fo args)) {c : Ctx} {w : World} {t : T} {a : Act} (ht : TRel N c t a) {f : FuncId} {caps : List V} (hf : V.calls (fo.ev t) (args.map (Opd.ev t)) = some (f, caps)) :
  ∃ cargs, VRels c.ro c.m caps cargs ∧ ∀ odst ty pos after guard, (execOp a.eval ⟨odst, op, ty, pos, after, guard⟩).run P w = (callFunc f cargs).run P w := by
 rcases cOp_call hcp with ⟨fo', args', ats, rfl, hfo, hargs⟩ | ⟨i, name, args', ats, xs, rfl, hi, hargs, rfl, rfl⟩
 ·have r1 := opd_rel ht hfo
  unfold V.calls at hf
  split at hf <;> cases hf
  ·rename_i caps' hev
   rw [hev] at r1
   obtain ⟨cs1, hcs1, hcaps⟩ := r1.fn_inv
   refine ⟨_, (opds_rel ht hargs).append hcaps, fun odst ty pos after guard => ?_⟩
   simp [execOp, resolve, Sem.run_bind, hcs1, Deferred.ofValue, invoke]
  ·rename_i id hev
   rw [hev] at r1
   obtain ⟨p, hp, hn, hcv⟩ := r1.bnd_inv
   refine ⟨#[.pointer (some ⟨p.block, p.base, none⟩)] ++ args'.map a.eval, ?_, fun odst ty pos after guard => ?_⟩
   ·have hone : VRels c.ro c.m [.ptr id 0] #[.pointer (some ⟨p.block, p.base, none⟩)] := by
     refine ⟨rfl, fun j h1 h2 => ?_⟩
     have : j = 0 := by simpa using h1
     subst this
     exact .ptr _ _ _ p hp hn
    exact hone.append (opds_rel ht hargs)
   ·simp [execOp, resolve, Sem.run_bind, hcv, Deferred.ofValue, invoke]
 ·have r1 := ht.rel i
  simp only [Opd.ev] at hf
  have h2 : ∃ T id, t i = .ifc T id ∧ (invTbl P name).lookup T = some f ∧ caps = (Opd.unw i :: xs).map (Opd.ev t) := by
   generalize (Opd.unw i :: xs).map (Opd.ev t) = as at hf ⊢
   generalize t i = tv at hf ⊢
   cases tv with
   | ifc T id =>
    simp only at hf
    split at hf
    ·rename_i g hg; simp only [V.calls, List.append_nil] at hf; cases hf; exact ⟨T, id, rfl, hg, rfl⟩
    ·simp [V.calls] at hf
   | _ => simp [V.calls] at hf
  obtain ⟨T, id, hti, hl, rfl⟩ := h2
  rw [hti] at r1
  obtain ⟨p, hp, hn, hcv⟩ := r1.ifc_inv
  have r2 := opds_rel ht hargs
  have hm := lookup_mem hl
  simp only [invTbl, List.mem_filterMap] at hm
  obtain ⟨T', _, hT⟩ := hm
  unfold inv1 at hT
  split at hT
  case h_2 => cases hT
  case h_1 ti hinfo =>
  split at hT
  case h_2 => cases hT
  case h_1 e hu =>
  split at hT
  case h_2 => cases hT
  case h_1 m hfind =>
  split at hT
  case h_2 => cases hT
  case h_1 g hfun =>
  split at hT <;> cases hT
  rename_i hpath hrange
  have hpath : m.path.toList = [] := by simpa using hpath
  have hpe : m.path.isEmpty = true := by simp [← Array.toList_eq_nil_iff, hpath]
  refine ⟨#[.pointer (some ⟨p.block, p.base, none⟩)] ++ args'.map a.eval, ?_, fun odst ty pos after guard => ?_⟩
  ·have hone : VRels c.ro c.m [.ptr id 0] #[.pointer (some ⟨p.block, p.base, none⟩)] := by
    refine ⟨rfl, fun j h1 h2 => ?_⟩
    have : j = 0 := by simpa using h1
    subst this
    exact .ptr _ _ _ p hp hn
   have := hone.append r2
   simpa [Opd.ev, hti] using this
  ·have hv : a.eval (.tmp i) = .iface T (.pointer (some ⟨p.block, p.base, none⟩)) := hcv
   have h0 : (#[Value.iface T (.pointer (some ⟨p.block, p.base, none⟩))] ++ args'.map a.eval)[0]? = some (Value.iface T (.pointer (some ⟨p.block, p.base, none⟩))) := by rw [Array.getElem?_append_left (by simp)]; rfl
   have he : (args'.map a.eval).extract 0 args'.size = args'.map a.eval := by simp
   obtain ⟨n, hnn⟩ : ∃ n, P.types.size + Made.depth = n + 1 := ⟨P.types.size + Made.depth - 1, by have := List.mem_range.1 hrange; omega⟩
   have hm : ∀ v, (method (n + 1) T v name).run P w = .ok (f, v) w := by
    intro v
    simp [method, typeInfo, Sem.run_bind, hinfo, hfind, hpath, hfun, follow, receiverAt, run_underlying hu, Go.Place.get]
   simp [execOp, resolve, Sem.run_bind, invoke, hv, h0, callMethod, hnn, hm, he]
theorem call_yld {P : Program} {N : Nat} {op : Op} {fo : Opd} {args : List Opd} (hcp : cOp P N op = some (.call fo args)) {t : T} {id : Nat} (hf : fo.ev t = .yld id) :
  ∃ fo' args' ats, op = .call { callee := .value fo', args := args', argTypes := ats } ∧ cOpd N fo' = some fo ∧ cOpds N args' = some args := by
 rcases cOp_call hcp with h | ⟨i, name, args', ats, xs, rfl, hi, hargs, rfl, rfl⟩
 ·exact h
 ·simp only [Opd.ev] at hf
  split at hf
  ·split at hf <;> cases hf
  ·cases hf
theorem Run.call {E : Env} {d g fo args l k t h f caps Q} (hg : goes t g) (hf : V.calls (fo.ev t) (args.map (Opd.ev t)) = some (f, caps)) (htri : Tri E.P f caps h Q)
  (hk : ∀ v h', Q v h' → Run E ⟨.ops l :: k, put t d v, h'⟩) : Run E ⟨.ops (⟨d, g, .call fo args⟩ :: l) :: k, t, h⟩ := by
 intro c0 w0 h0 c w a hadv hh ht hd b items cs hb hbk hk'
 simp only at hadv hh ht hk'
 cases hk' with | cons hx hk' => cases hx with | @ops _ ops todo hl =>
 rename_i items
 cases todo with
 | nil => simp at hl
 | cons i todo =>
  obtain ⟨⟨o, ho, hco⟩, hl'⟩ := ops_cons hl
  obtain ⟨hcp, hdst, hdN, hgd⟩ := cOper_spec hco
  obtain ⟨w1, w2⟩ := wanted_of ht hgd
  have hw : Region.wanted o (yielded ops a.tmps) = true := by
   cases g with
   | none => exact w1 rfl
   | some jw => obtain ⟨j, want⟩ := jw; rw [w2.1 j want want rfl hg]; simp
  obtain ⟨odst, op, ty, pos, after, guard⟩ := o
  simp only at hcp hdst
  obtain ⟨⟨fn, hfn, hbody, hname⟩, hcalls⟩ := htri
  obtain ⟨cargs, hcargs, hex⟩ := call_exec hcp (w := w) ht hf
  have hcall := hcalls c w _ hh hcargs
  have hexec : (execOp a.eval ⟨odst, op, ty, pos, after, guard⟩).run E.P w = .ok (.enter f cargs) w := by
   rw [hex]
   have hn1 : ¬ fn.name = "runtime.NumGoroutine" := by simpa using hname
   have hn2 : ¬ fn.body = none := by intro h; simp [h] at hbody
   simp [Sem.run_bind, callFunc, hfn, hn1, hn2]
  have hgop := stepGR (P := E.P) (b := b) (k := items) (cs := cs) (w := w) (rest := todo) ho hw hcp
  obtain ⟨e, w2', fr, hR, hcomes, hfrf, hleave⟩ := hcall (b.atR a (.inRegion ops (i :: todo) :: items) :: cs)
  obtain ⟨v, H', c', cv, hQ, rfl, hv, hh', hadv'⟩ := hR
  have henter : Go.step E.P (lone (b.atR a (.inRegion ops (i :: todo) :: items)) cs w) = .next (lone (Frame.enter E.P f cargs .normal) (b.atR a (.inRegion ops (i :: todo) :: items) :: cs) w) :=
   step_lone_go (by rw [hgop]; simp [stepG.apply, hexec, Frame.atR])
  have hfin := region_finish (b := b) (a := a) (rest := todo) (k := items) ho cv
  refine Goes.steps (a' := a.put odst cv) (k' := .inRegion ops todo :: items) (w' := w2') (.head henter (hcomes.trans (.one ?_))) ?_
  ·rw [← hfin]; exact step_leave_returned hleave
  ·refine hk v H' hQ c0 w0 h0 c' w2' _ (hadv.trans h0 hadv') hh' (by rw [hdst]; exact (ht.mono hadv'.m hadv'.ro).put d hdN hv) ?_ b _ cs hb hbk (.cons (.ops hl') hk')
   cases odst <;> exact hd
theorem Run.inLoop {E : Env} {body k t h} (hr : Run E ⟨.code body :: .inLoop body :: k, t, h⟩) : Run E ⟨.inLoop body :: k, t, h⟩ := by
 intro c0 w0 h0 c w a hadv hh ht hd b items cs hb hbk hk
 cases hk with | cons hx hk => cases hx with | inLoop hc =>
 exact Goes.step stepR_inLoop (hr c0 w0 h0 c w a hadv hh ht hd b _ cs hb hbk (.cons (.code hc) (.cons (.inLoop hc) hk)))
theorem Run.loop {E : Env} {body k} (I : Nat → T → List O → Prop) (round : ∀ n t h, I n t h → (∀ n' t' h', n' < n → I n' t' h' → Run E ⟨.inLoop body :: k, t', h'⟩) → Run E ⟨.code body :: .inLoop body :: k, t, h⟩)
  {n t h} (hI : I n t h) : Run E ⟨.code (.loop body) :: k, t, h⟩ := by
 have key : ∀ n t h, I n t h → Run E ⟨.inLoop body :: k, t, h⟩ := by
  intro n
  induction n using Nat.strongRecOn with
  | _ n ih => intro t h hI; exact Run.inLoop (round n t h hI fun n' t' h' hn hi => ih n' hn t' h' hi)
 intro c0 w0 h0 c w a hadv hh ht hd b items cs hb hbk hk
 cases hk with | cons hx hk => cases hx with | code hc =>
 obtain ⟨x, rfl, hx⟩ := cCode_loop hc
 have := round n t h hI (fun n' t' h' _ hi => key n' t' h' hi)
 exact Goes.step stepR_loop (this c0 w0 h0 c w a hadv hh ht hd b _ cs hb hbk (.cons (.code hx) (.cons (.inLoop hx) hk)))
structure Names (n0 : Nat) (ρ : Nat → Option Nat) (h h' : List O) : Prop where
 len : n0 ≤ h'.length
 keep : ∀ i, i < n0 → ρ i = some i
 dom : ∀ i j, ρ i = some j → i < h'.length
 obj : ∀ i o, h'[i]? = some o → o.live → ∃ j, ρ i = some j ∧ h[j]? = some (o.ren ρ)
 inj : ∀ i i' j, ρ i = some j → ρ i' = some j → i = i'
def Ctx.via (c : Ctx) (ρ : Nat → Option Nat) : Ctx := ⟨fun i => (ρ i).bind c.m, c.ro⟩
theorem via_some {c : Ctx} {ρ : Nat → Option Nat} {i : Nat} {p : Place} (h : (c.via ρ).m i = some p) : ∃ j, ρ i = some j ∧ c.m j = some p := by
 simp only [Ctx.via] at h
 cases hr : ρ i with
 | none => simp [hr] at h
 | some j => simp [hr] at h; exact ⟨j, rfl, h⟩
theorem via_of {c : Ctx} {ρ : Nat → Option Nat} (i j : Nat) (p : Place) (h : ρ i = some j) (k : c.m j = some p) : (c.via ρ).m i = some p := by simp [Ctx.via, h, k]
theorem reindex {c0 w0 H0 c w h h' ρ} (h0 : HRel c0 w0 H0) (hadv : Adv c0 w0 H0 c w h) (hh : HRel c w h) (hn : Names H0.length ρ h h') : HRel (c.via ρ) w h' ∧ Adv c0 w0 H0 (c.via ρ) w h' := by
 have hlive : ∀ i, Live h' i → ∃ j, ρ i = some j ∧ Live h j := by
  rintro i ⟨o, ho, hl⟩
  obtain ⟨j, hj, hg⟩ := hn.obj i o ho hl
  exact ⟨j, hj, _, hg, O.ren_live.2 hl⟩
 refine ⟨⟨hh.ro, ?_, ?_, ?_, hh.glob⟩, ⟨?_, hadv.ro, hn.len, ?_, hadv.size, hadv.frame, ?_, hadv.freshro, hadv.os, hadv.output, hadv.tape⟩⟩
 ·intro i p hi
  obtain ⟨j, hj, _⟩ := via_some hi
  exact hn.dom i j hj
 ·intro i o ho hl
  obtain ⟨j, hj, hg⟩ := hn.obj i o ho hl
  obtain ⟨p, hp, hr, hro⟩ := hh.obj j _ hg (O.ren_live.2 hl)
  exact ⟨p, via_of i j p hj hp, hr.of_ren ρ via_of, hro⟩
 ·intro i i' p q hi hi' hp hq hpn hqn he
  obtain ⟨j, hj, hl⟩ := hlive i hi
  obtain ⟨j', hj', hl'⟩ := hlive i' hi'
  obtain ⟨k, hk, hp'⟩ := via_some hp
  obtain ⟨k', hk', hq'⟩ := via_some hq
  rw [hj] at hk; cases hk
  rw [hj'] at hk'; cases hk'
  have := hh.inj j j' p q hl hl' hp' hq' hpn hqn he
  subst this
  exact hn.inj i i' j hj hj'
 ·intro i p hi
  have hlt := h0.dom i p hi
  exact via_of i i p (hn.keep i hlt) (hadv.m i p hi)
 ·intro i hi hl
  obtain ⟨j, hj, hl'⟩ := hlive i hl
  rw [hn.keep i hi] at hj
  cases hj
  exact hadv.live i hi hl'
 ·intro i p hi hpn
  obtain ⟨j, hj, hp⟩ := via_some hi
  rcases hadv.fresh j p hp hpn with h1 | h1
  ·have hlt := h0.dom j p h1
   have := hn.inj i j j hj (hn.keep j hlt)
   subst this
   exact .inl h1
  ·exact .inr h1
theorem Names.less {n m ρ h h'} (hn : Names n ρ h h') (hm : m ≤ n) : Names m ρ h h' :=
 ⟨Nat.le_trans hm hn.len, fun i hi => hn.keep i (Nat.lt_of_lt_of_le hi hm), hn.dom, hn.obj, hn.inj⟩
theorem Names.rel {n ρ h h' c w} (hn : Names n ρ h h') (hh : HRel c w h) : HRel (c.via ρ) w h' := by
 have hlive : ∀ i, Live h' i → ∃ j, ρ i = some j ∧ Live h j := by
  rintro i ⟨o, ho, hl⟩
  obtain ⟨j, hj, hg⟩ := hn.obj i o ho hl
  exact ⟨j, hj, _, hg, O.ren_live.2 hl⟩
 refine ⟨hh.ro, ?_, ?_, ?_, hh.glob⟩
 ·intro i p hi
  obtain ⟨j, hj, _⟩ := via_some hi
  exact hn.dom i j hj
 ·intro i o ho hl
  obtain ⟨j, hj, hg⟩ := hn.obj i o ho hl
  obtain ⟨p, hp, hr, hro⟩ := hh.obj j _ hg (O.ren_live.2 hl)
  exact ⟨p, via_of i j p hj hp, hr.of_ren ρ via_of, hro⟩
 ·intro i i' p q hi hi' hp hq hpn hqn he
  obtain ⟨j, hj, hl⟩ := hlive i hi
  obtain ⟨j', hj', hl'⟩ := hlive i' hi'
  obtain ⟨k, hk, hp'⟩ := via_some hp
  obtain ⟨k', hk', hq'⟩ := via_some hq
  rw [hj] at hk; cases hk
  rw [hj'] at hk'; cases hk'
  have := hh.inj j j' p q hl hl' hp' hq' hpn hqn he
  subst this
  exact hn.inj i i' j hj hj'
theorem Run.weaken {E : Env} {k t h} (ρ : Nat → Option Nat) (t' : T) (h' : List O) (hn : Names E.H0.length ρ h h') (ht : ∀ i, t' i = .any ∨ t i = (t' i).ren ρ) (hr : Run E ⟨k, t', h'⟩) : Run E ⟨k, t, h⟩ := by
 intro c0 w0 h0 c w a hadv hh htr hd b items cs hb hbk hk
 simp only at hadv hh htr hk
 obtain ⟨g1, g2⟩ := reindex h0 hadv hh hn
 refine hr c0 w0 h0 (c.via ρ) w a g2 g1 ⟨htr.size, fun i => ?_⟩ hd b items cs hb hbk hk
 show VRel (c.via ρ).ro (c.via ρ).m (t' i) _
 rcases ht i with h1 | h1
 ·rw [h1]; exact .any ..
 ·have := htr.rel i
  exact this.of_ren ρ h1 via_of
inductive ARes where
 | tmp (i : Nat)
 | cell (i : Nat) (k : Option Nat)
def cRes (P : Program) (N : Nat) : ResultVar → Option ARes
 | .tmp i => if i < N then some (.tmp i) else none
 | .cell i t => match cSize P t with
  | some (n, b) => if i < N then some (.cell i (if b then some n else none)) else none
  | none => none
def ARes.ev (t : T) (h : List O) : ARes → Option V
 | .tmp i => some (t i)
 | .cell i k => match opStep t h (.load (.t i) k) with
  | some (v, _) => some v
  | none => none
def evs (t : T) (h : List O) : List ARes → Option (List V)
 | [] => some []
 | r :: rs => match r.ev t h, evs t h rs with
  | some v, some vs => some (v :: vs)
  | _, _ => none
def mkRes : List V → V
 | [v] => v
 | vs => .tup vs
theorem res_one {P N c t a w h} (hh : HRel c w h) (ht : TRel N c t a) {r : ResultVar} {ar : ARes} (hr : cRes P N r = some ar) {v : V} (hv : ar.ev t h = some v) :
  ∃ cv, (match r with | .tmp t => pure (a.tmps.getD t undef) | .cell x t => (do loadVar t (← asAddr (a.tmps.getD x undef))) : Sem Value).run P w = .ok cv w ∧ VRel c.ro c.m v cv := by
 cases r with
 | tmp i =>
  simp only [cRes] at hr
  split at hr <;> cases hr
  simp only [ARes.ev] at hv
  cases hv
  exact ⟨_, rfl, ht.rel i⟩
 | cell i ty =>
  simp only [cRes] at hr
  split at hr
  case h_2 => cases hr
  case h_1 n b hk =>
   split at hr <;> cases hr
   rename_i hi
   simp only [ARes.ev] at hv
   split at hv <;> cases hv
   rename_i h2 hs
   have hx : cOpd N (.tmp i) = some (.t i) := by simp [cOpd, hi]
   obtain ⟨_, cv, h1, h3⟩ := sound_load0 (P := P) hh ht hx hk hs
   refine ⟨cv, ?_, h3⟩
   rw [← h1]
   simp only [Act.eval]
   have : ∃ ad, a.tmps.getD i undef = .pointer (some ad) := by
    have hrel := ht.rel i
    simp only [opStep, Opd.ev] at hs
    generalize t i = tv at *
    split at hs
    ·obtain ⟨p, _, _, h⟩ := hrel.ptr_inv; exact ⟨_, h⟩
    ·obtain ⟨p, _, _, h⟩ := hrel.eptr_inv; exact ⟨_, h⟩
    ·obtain ⟨_, _, _, _, _, _, _, h⟩ := hrel.rptr_inv; exact ⟨_, h⟩
    ·cases hs
   obtain ⟨ad, had⟩ := this
   simp only [had, asAddr, Instr.loadAt, Instr.sureAddr]
theorem res_all {P N c t a w h} (hh : HRel c w h) (ht : TRel N c t a) : ∀ (rs : List ResultVar) (ars : List ARes) (vs : List V), rs.mapM (cRes P N) = some ars → evs t h ars = some vs →
  ∃ cvs : List Value, (rs.mapM fun r => (match r with | .tmp t => pure (a.tmps.getD t undef) | .cell x t => (do loadVar t (← asAddr (a.tmps.getD x undef))) : Sem Value)).run P w = .ok cvs w ∧ vs.length = cvs.length ∧ ∀ i (h : i < vs.length) (h' : i < cvs.length), VRel c.ro c.m vs[i] cvs[i]
 | [], ars, vs, hm, he => by
  simp at hm; subst hm
  simp [evs] at he; subst he
  exact ⟨[], rfl, rfl, fun i h => by simp at h⟩
 | r :: rs, ars, vs, hm, he => by
  simp only [List.mapM_cons] at hm
  cases h1 : cRes P N r with
  | none => simp [h1] at hm
  | some ar =>
   cases h2 : rs.mapM (cRes P N) with
   | none => simp [h1, h2] at hm
   | some ars' =>
    simp [h1, h2] at hm; subst hm
    simp only [evs] at he
    split at he <;> cases he
    rename_i v vs' hv hvs
    obtain ⟨cv, g1, g2⟩ := res_one hh ht h1 hv
    obtain ⟨cvs, k1, k2, k3⟩ := res_all hh ht rs ars' vs' h2 hvs
    refine ⟨cv :: cvs, ?_, by simp [k2], fun i a b => ?_⟩
    ·simp only [List.mapM_cons, Sem.run_bind, g1, Result.andThen_ok, k1, Sem.run_pure]
    ·cases i with
     | zero => exact g2
     | succ i => simpa using k3 i (by simpa using a) (by simpa using b)
theorem results_run {P N c t a w h} (hh : HRel c w h) (ht : TRel N c t a) {fn : Func} {ars vs} (hr : fn.results.toList.mapM (cRes P N) = some ars) (hv : evs t h ars = some vs) :
  ∃ cv, (results fn a.tmps).run P w = .ok cv w ∧ VRel c.ro c.m (mkRes vs) cv := by
 obtain ⟨cvs, h1, h2, h3⟩ := res_all hh ht _ _ _ hr hv
 have hrun : (results fn a.tmps).run P w = .ok (if h : cvs.toArray.size = 1 then cvs.toArray[0] else .tuple cvs.toArray) w := by
  unfold results
  rw [Array.mapM_eq_mapM_toList]
  simp only [Sem.run_bind]
  have : ∀ (s : Sem (List Value)), s.run P w = .ok cvs w → (List.toArray <$> s).run P w = .ok cvs.toArray w := by
   intro s hs
   show (s.bind fun x => Sem.pure x.toArray).run P w = _
   have := Sem.run_bind (P := P) (w := w) s (fun x => Sem.pure x.toArray)
   rw [show s.bind (fun x => Sem.pure x.toArray) = (s >>= fun x => Sem.pure x.toArray) from rfl, this, hs]
   rfl
  exact (congrArg (fun (r : Result (Array Value)) => r.andThen fun a w' => Sem.run P (pure (if h : a.size = 1 then a[0] else Value.tuple a)) w') (this _ h1)).trans rfl
 refine ⟨_, hrun, ?_⟩
 match vs, cvs, h2, h3 with
 | [v], [cv], _, h3 => simp only [mkRes]; exact h3 0 (by simp) (by simp)
 | [], [], _, h3 => exact .tup _ _ _ rfl fun i h => by simp at h
 | a :: b :: r, x :: y :: s, h2, h3 =>
  have : ¬ (x :: y :: s).toArray.size = 1 := by simp
  rw [dif_neg this]
  exact .tup _ _ _ (by simpa using h2) fun i p q => by simpa using h3 i p (by simpa using q)
def AtEnd : List AItem → Prop
 | [] => True
 | .code .ret :: _ => True
 | _ => False
theorem Run.ret {E : Env} {fn : Func} (hf : E.P.funcs[E.f.f]? = some fn) {ars} (hr : fn.results.toList.mapM (cRes E.P E.N) = some ars) {k t h} (hk : AtEnd k) {vs} (hv : evs t h ars = some vs)
  (ρ : Nat → Option Nat) {v' : V} {h' : List O} (hn : Names E.H0.length ρ h h') (hv' : mkRes vs = v'.ren ρ) (hp : E.Post v' h') (hw : E.f.isFn := by exact True.intro) : Run E ⟨k, t, h⟩ := by
 intro c0 w0 h0 c w a hadv hh ht hd b items cs hb hbk hkk
 simp only at hadv hh ht hkk
 have hbk' : b.kind = .normal ∧ b.roundOf = none := by
  generalize E.f = x at hw hbk
  cases x <;> first | exact hbk | exact hw.elim
 have hR : ∀ items, FnR E.P E.f.f E.f.ds E.H0 c0 w0 E.Post (.returned undef) w { b.atR a items with mode := .returning } := by
  refine fun items => ⟨c, h, fn, ⟨_, rfl⟩, rfl, hd, hbk'.1, hb, hf, hh, hadv, fun w2 hh2 => ?_⟩
  obtain ⟨cv, g1, g2⟩ := results_run (P := E.P) hh2 ht hr hv
  exact ⟨cv, v', h', c.via ρ, g1, hp, g2.of_ren ρ hv' via_of, hn.rel hh2, fun c1 w1 H1 hh1 hle hadv1 => (reindex hh1 hadv1 hh2 (hn.less hle)).2⟩
 have hF : ∀ items, E.F c0 w0 (.returned undef) w { b.atR a items with mode := .returning } := by
  intro items
  have := hR items
  unfold Env.F
  generalize E.f = x at hw this
  cases x <;> first | exact this | exact hw.elim
 cases hkk with
 | nil => exact ⟨_, w, _, hF _, Steps.one (stepR_end hbk'.2)⟩
 | cons hx hk' =>
  cases hx with
  | code hc =>
   rename_i ac
   cases ac <;> simp only [AtEnd] at hk
   cases cCode_ret hc
   exact ⟨_, w, _, hF _, Steps.one (stepR_ret hbk'.2)⟩
  | ops => simp only [AtEnd] at hk
  | endB => simp only [AtEnd] at hk
  | inLoop => simp only [AtEnd] at hk
  | beginR => simp only [AtEnd] at hk
def args0 (args : List V) : T := fun i => args.getD i .any
theorem Tri.of_run {P : Program} {f : FuncId} {fn : Func} {body : Code} {ac : AC} {args : List V} {H : List O} {Post} (hf : P.funcs[f]? = some fn) (hb : fn.body = some body) (hname : (fn.name == "runtime.NumGoroutine") = false)
  (hc : cCode P fn.ntmps body = some ac) (hl : args.length ≤ fn.ntmps) (hr : Run ⟨P, .fn f, fn.ntmps, H, Post⟩ ⟨[.code ac], args0 args, H⟩) : Tri P f args H Post := by
 refine ⟨⟨fn, hf, by simp [hb], hname⟩, fun c w cargs hh hv => ?_⟩
 intro cs
 let b : Frame := { (default : Frame) with fn := f, kind := .normal, roundOf := none }
 have henter : Frame.enter P f cargs .normal = b.atR { tmps := cargs ++ Array.replicate (fn.ntmps - cargs.size) undef, defers := [] } [.code body] := by
  simp [Frame.enter, Frame.atR, hf, hb, b]
 rw [henter]
 obtain ⟨e, w', fr, ⟨c1, h1, fn1, ⟨cv0, rfl⟩, m1, m2, m3, m4, m5, m6, m7, m8⟩, h2⟩ := hr c w hh c w { tmps := cargs ++ Array.replicate (fn.ntmps - cargs.size) undef, defers := [] } (Adv.refl ..) hh (by
  refine ⟨by simp; have := hv.1; omega, fun i => ?_⟩
  simp only [args0]
  rcases Nat.lt_or_ge i args.length with hi | hi
  ·have hi' : i < cargs.size := by rw [← hv.1]; exact hi
   have := hv.2 i hi hi'
   simp [List.getD_eq_getElem?_getD, List.getElem?_eq_getElem hi, Array.getElem?_append_left hi', hi']
   exact this
  ·simp [List.getD_eq_getElem?_getD, List.getElem?_eq_none hi]
   exact .any ..) rfl b [.code body] cs rfl ⟨rfl, rfl⟩ (.cons (.code hc) .nil)
 obtain ⟨cv, v, H', c', k1, k2, k3, k4, k5⟩ := m8 w' m6
 have k5 := k5 c w H hh (Nat.le_refl _) m7
 exact ⟨.returned cv, w', fr, ⟨v, H', c', cv, k2, rfl, k3, k4, k5⟩, h2, m4, m1, m2, m3, fn1, by rw [m4]; exact m5, k1⟩
theorem Tri.of_run' {P : Program} {f : FuncId} {fn : Func} {ac : AC} {args : List V} {H : List O} {Post} (hf : P.funcs[f]? = some fn) (hname : (fn.name == "runtime.NumGoroutine") = false)
  (hc : fn.body.bind (cCode P fn.ntmps) = some ac) (hl : args.length ≤ fn.ntmps) (hr : Run ⟨P, .fn f, fn.ntmps, H, Post⟩ ⟨[.code ac], args0 args, H⟩) : Tri P f args H Post := by
 cases hb : fn.body with
 | none => simp [hb] at hc
 | some body => simp [hb] at hc; exact Tri.of_run hf hb hname hc hl hr
end Sx
namespace Sx
open Go
set_option linter.unusedSimpArgs false
set_option linter.unusedVariables false
def setAll : List O → List Nat → List O → List O
 | H, i :: is, o :: os => setAll (H.set i o) is os
 | H, _, _ => H
theorem setAll_length : ∀ (is : List Nat) (H os : List O), (setAll H is os).length = H.length
 | [], H, os => by cases os <;> rfl
 | i :: is, H, [] => rfl
 | i :: is, H, o :: os => by simp only [setAll]; rw [setAll_length]; simp
theorem setAll_out : ∀ (is : List Nat) (H os : List O) (j : Nat), j ∉ is → (setAll H is os)[j]? = H[j]?
 | [], H, os, j, _ => by cases os <;> rfl
 | i :: is, H, [], j, _ => rfl
 | i :: is, H, o :: os, j, h => by
  simp only [setAll]
  have hne : i ≠ j := fun e => h (by subst e; exact List.mem_cons_self)
  rw [setAll_out is _ os j (fun hh => h (List.mem_cons_of_mem _ hh)), List.getElem?_set_ne hne]
theorem setAll_in : ∀ (is : List Nat) (H os : List O) (k : Nat) (hk : k < is.length), is.Nodup → is[k] < H.length → k < os.length → (setAll H is os)[is[k]]? = os[k]?
 | i :: is, H, [], k, hk, hn, hl, ho => by simp at ho
 | i :: is, H, o :: os, 0, hk, hn, hl, ho => by
  simp only [setAll, List.getElem_cons_zero] at hl ⊢
  rw [setAll_out is _ os i (List.nodup_cons.1 hn).1, List.getElem?_set_self hl]; rfl
 | i :: is, H, o :: os, k + 1, hk, hn, hl, ho => by
  simp only [setAll, List.getElem_cons_succ] at hl ⊢
  rw [setAll_in is (H.set i o) os k (by simpa using hk) (List.nodup_cons.1 hn).2 (by simpa using hl) (by simpa using ho)]
  simp
def nm (ids : List Nat) (n : Nat) (i : Nat) : Option Nat := if i < ids.length then ids[i]? else some (n + (i - ids.length))
def back (ids : List Nat) (H Hs : List O) : List O := setAll H ids (Hs.map (O.ren (nm ids H.length))) ++ (Hs.drop ids.length).map (O.ren (nm ids H.length))
theorem Tri.frame {P : Program} {f : FuncId} {as : List V} {Hs : List O} {Post} (h : Tri P f as Hs Post) (ids : List Nat) (H : List O) (hlen : ids.length = Hs.length) (hnd : ids.Nodup)
  (hlive : ∀ (i : Nat) (o : O), Hs[i]? = some o → o.live) (hobj : ∀ (i : Nat) (hi : i < ids.length) (o : O), Hs[i]? = some o → H[ids[i]]? = some (o.ren (nm ids H.length))) :
  Tri P f (V.renL (nm ids H.length) as) H (fun v H' => ∃ v0 Hs', Post v0 Hs' ∧ v = v0.ren (nm ids H.length) ∧ H' = back ids H Hs') := by
 refine ⟨h.1, fun C w cargs hH hargs => ?_⟩
 -- the names that are there
 have nm_in : ∀ i (hi : i < ids.length), nm ids H.length i = some ids[i] := fun i hi => by simp [nm, hi]
 have hid : ∀ i (hi : i < ids.length), ∃ o, Hs[i]? = some o ∧ H[ids[i]]? = some (o.ren (nm ids H.length)) ∧ ids[i] < H.length := by
  intro i hi
  have ho : Hs[i]? = some (Hs[i]'(by omega)) := List.getElem?_eq_getElem (by omega)
  have := hobj i hi _ ho
  exact ⟨_, ho, this, (List.getElem?_eq_some_iff.1 this).1⟩
 have inj : ∀ i i' (hi : i < ids.length) (hi' : i' < ids.length), ids[i] = ids[i'] → i = i' := fun i i' hi hi' he => (List.getElem_inj hnd).1 he
 let ρ : Nat → Option Nat := fun i => ids[i]?
 have ρ_in : ∀ i (hi : i < ids.length), ρ i = some ids[i] := fun i hi => List.getElem?_eq_getElem hi
 have ρ_some : ∀ i j, ρ i = some j → ∃ hi : i < ids.length, ids[i] = j := fun i j h => by
  obtain ⟨h1, h2⟩ := List.getElem?_eq_some_iff.1 h; exact ⟨h1, h2⟩
 let c : Ctx := C.via ρ
 have cm : ∀ i (hi : i < ids.length), c.m i = C.m ids[i] := fun i hi => by show (ρ i).bind C.m = _; rw [ρ_in i hi]; rfl
 have cm_some : ∀ i p, c.m i = some p → ∃ hi : i < ids.length, C.m ids[i] = some p := fun i p hp => by
  obtain ⟨j, hj, hp'⟩ := via_some hp
  obtain ⟨hi, rfl⟩ := ρ_some i j hj
  exact ⟨hi, hp'⟩
 have of_nm : ∀ i j p, nm ids H.length i = some j → C.m j = some p → c.m i = some p := by
  intro i j p hj hp
  by_cases hi : i < ids.length
  ·rw [nm_in i hi] at hj; cases hj; rw [cm i hi]; exact hp
  ·simp only [nm, if_neg hi] at hj
   cases hj
   have := hH.dom _ _ hp
   omega
 have hsmall : HRel c w Hs := by
  refine ⟨hH.ro, ?_, ?_, ?_, hH.glob⟩
  ·intro i p hp; obtain ⟨hi, _⟩ := cm_some i p hp; omega
  ·intro i o ho hl
   have hi : i < ids.length := by rw [hlen]; exact (List.getElem?_eq_some_iff.1 ho).1
   obtain ⟨p, hp, hr, hro⟩ := hH.obj _ _ (hobj i hi o ho) (O.ren_live.2 hl)
   exact ⟨p, by rw [cm i hi]; exact hp, hr.of_ren _ of_nm, hro⟩
  ·intro i i' p q hi hi' hp hq hpn hqn he
   obtain ⟨h1, hp'⟩ := cm_some i p hp
   obtain ⟨h2, hq'⟩ := cm_some i' q hq
   obtain ⟨o, ho, hHo, _⟩ := hid i h1
   obtain ⟨o', ho', hHo', _⟩ := hid i' h2
   exact inj i i' h1 h2 (hH.inj _ _ p q ⟨_, hHo, O.ren_live.2 (hlive i o ho)⟩ ⟨_, hHo', O.ren_live.2 (hlive i' o' ho')⟩ hp' hq' hpn hqn he)
 have hargs' : VRels c.ro c.m as cargs := by
  refine ⟨by rw [← hargs.1, V.renL_length], fun i a b => ?_⟩
  have := hargs.2 i (by rw [V.renL_length]; exact a) b
  exact this.of_ren _ (V.renL_get _ _ i _) of_nm
 refine (h.2 c w cargs hsmall hargs').mono ?_
 rintro e w' ⟨v0, Hs', c', cv, hPost, rfl, hv, hh', hadv⟩
 let C' : Ctx := ⟨fun j => if j < H.length then C.m j else c'.m (ids.length + (j - H.length)), c'.ro⟩
 have hl' : Hs.length ≤ Hs'.length := hadv.len
 have c'_old : ∀ i (hi : i < ids.length), c'.m i = C.m ids[i] := by
  intro i hi
  obtain ⟨o, ho, hHo, _⟩ := hid i hi
  obtain ⟨p, hp, _⟩ := hH.obj _ _ hHo (O.ren_live.2 (hlive i o ho))
  rw [hp]
  exact hadv.m i p (by rw [cm i hi]; exact hp)
 have to_nm : ∀ i p, c'.m i = some p → ∃ j, nm ids H.length i = some j ∧ C'.m j = some p := by
  intro i p hp
  by_cases hi : i < ids.length
  ·obtain ⟨_, _, _, hlt⟩ := hid i hi
   refine ⟨ids[i], nm_in i hi, ?_⟩
   show (if ids[i] < H.length then C.m ids[i] else _) = _
   rw [if_pos hlt, ← c'_old i hi]; exact hp
  ·refine ⟨H.length + (i - ids.length), by simp [nm, hi], ?_⟩
   show (if H.length + (i - ids.length) < H.length then _ else c'.m (ids.length + (H.length + (i - ids.length) - H.length))) = _
   rw [if_neg (by omega), show ids.length + (H.length + (i - ids.length) - H.length) = i from by omega]; exact hp
 have Cext : ∀ i p, C.m i = some p → C'.m i = some p := fun i p hp => by
  show (if i < H.length then C.m i else _) = _
  rw [if_pos (hH.dom i p hp)]; exact hp
 have owns : ∀ b, Owns c Hs b → Owns C H b := by
  rintro b ⟨i, p, hl, hp, hn, rfl⟩
  obtain ⟨hi, hp'⟩ := cm_some i p hp
  obtain ⟨o, ho, hHo, _⟩ := hid i hi
  exact ⟨ids[i], p, ⟨_, hHo, O.ren_live.2 (hlive i o ho)⟩, hp', hn, rfl⟩
 have owns' : ∀ b, Owns c Hs b → ∃ i, ∃ hi : i < ids.length, ∃ p, C.m ids[i] = some p ∧ p.null = false ∧ p.block = b ∧ Live H ids[i] := by
  rintro b ⟨i, p, hl, hp, hn, rfl⟩
  obtain ⟨hi, hp'⟩ := cm_some i p hp
  obtain ⟨o, ho, hHo, _⟩ := hid i hi
  exact ⟨i, hi, p, hp', hn, rfl, ⟨_, hHo, O.ren_live.2 (hlive i o ho)⟩⟩
 -- the objects behind
 have blen : (back ids H Hs').length = H.length + (Hs'.length - ids.length) := by simp [back, setAll_length]
 have b_in : ∀ i (hi : i < ids.length), (back ids H Hs')[ids[i]]? = some ((Hs'[i]'(by omega)).ren (nm ids H.length)) := by
  intro i hi
  obtain ⟨_, _, _, hlt⟩ := hid i hi
  unfold back
  rw [List.getElem?_append_left (by rw [setAll_length]; exact hlt), setAll_in ids H _ i hi hnd hlt (by simp; omega)]
  simp [List.getElem?_eq_getElem (show i < Hs'.length by omega)]
 have b_out : ∀ j, j < H.length → j ∉ ids → (back ids H Hs')[j]? = H[j]? := by
  intro j hj hn
  unfold back
  rw [List.getElem?_append_left (by rw [setAll_length]; exact hj), setAll_out ids H _ j hn]
 have b_new : ∀ j, H.length ≤ j → (back ids H Hs')[j]? = (Hs'[ids.length + (j - H.length)]?).map (O.ren (nm ids H.length)) := by
  intro j hj
  unfold back
  rw [List.getElem?_append_right (by rw [setAll_length]; exact hj), setAll_length, List.getElem?_map, List.getElem?_drop]
 have blocks : ∀ j p, j < H.length → j ∉ ids → Live H j → C.m j = some p → p.null = false → ¬ Owns c Hs p.block := by
  intro j p hj hn hl hp hpn ho
  obtain ⟨i, hi, q, hq, hqn, he, hl'⟩ := owns' _ ho
  have := hH.inj j ids[i] p q hl hl' hp hq hpn hqn he.symm
  exact hn (this ▸ List.getElem_mem _)
 have hHRel : HRel C' w' (back ids H Hs') := by
  refine ⟨hh'.ro, ?_, ?_, ?_, hh'.glob⟩
  ·intro j p hp
   rw [blen]
   by_cases hj : j < H.length
   ·omega
   ·have hp' : c'.m (ids.length + (j - H.length)) = some p := by
     have : C'.m j = c'.m (ids.length + (j - H.length)) := if_neg hj
     rw [← this]; exact hp
    have := hh'.dom _ _ hp'
    omega
  ·intro j o ho hl
   by_cases hj : j < H.length
   ·by_cases hm : j ∈ ids
    ·obtain ⟨i, hi, rfl⟩ := List.getElem_of_mem hm
     rw [b_in i hi] at ho
     cases ho
     have hi' : i < Hs'.length := by omega
     obtain ⟨p, hp, hr, hro⟩ := hh'.obj i Hs'[i] (List.getElem?_eq_getElem hi') (O.ren_live.1 hl)
     refine ⟨p, ?_, hr.to_ren _ to_nm, hro⟩
     rw [c'_old i hi] at hp; exact Cext _ _ hp
    ·rw [b_out j hj hm] at ho
     obtain ⟨p, hp, hr, hro⟩ := hH.obj j o ho hl
     have hno := fun hpn => blocks j p hj hm ⟨o, ho, hl⟩ hp hpn
     have hlt := fun hpn => hH.owns_lt ⟨j, p, ⟨o, ho, hl⟩, hp, hpn, rfl⟩
     refine ⟨p, Cext _ _ hp, hr.mono hadv.ro Cext (fun hpn => hadv.frame _ (hlt hpn) (hno hpn)), fun hpn => ?_⟩
     cases hx : c'.ro p.block with
     | none => exact (hx ▸ rfl)
     | some cs =>
      rcases hadv.freshro _ _ hx with h1 | h1 | h1
      ·have := hro hpn; rw [show c.ro = C.ro from rfl, this] at h1; cases h1
      ·exact absurd h1 (hno hpn)
      ·have := hlt hpn; omega
   ·rw [b_new j (by omega)] at ho
    cases hx : Hs'[ids.length + (j - H.length)]? with
    | none => simp [hx] at ho
    | some o' =>
     simp [hx] at ho
     subst ho
     obtain ⟨p, hp, hr, hro⟩ := hh'.obj _ _ hx (O.ren_live.1 hl)
     exact ⟨p, (if_neg hj).trans hp, hr.to_ren _ to_nm, hro⟩
  ·-- what is at one place is one
   have name : ∀ j p, Live (back ids H Hs') j → C'.m j = some p → (∃ i, Live Hs' i ∧ c'.m i = some p ∧ nm ids H.length i = some j) ∨ (j < H.length ∧ j ∉ ids ∧ Live H j ∧ C.m j = some p) := by
    rintro j p ⟨o, ho, hl⟩ hp
    by_cases hj : j < H.length
    ·have hp' : C.m j = some p := by rw [← hp]; exact (if_pos hj).symm
     by_cases hm : j ∈ ids
     ·obtain ⟨i, hi, rfl⟩ := List.getElem_of_mem hm
      rw [b_in i hi] at ho
      cases ho
      exact .inl ⟨i, ⟨_, List.getElem?_eq_getElem (by omega), O.ren_live.1 hl⟩, by rw [c'_old i hi]; exact hp', nm_in i hi⟩
     ·rw [b_out j hj hm] at ho
      exact .inr ⟨hj, hm, ⟨o, ho, hl⟩, hp'⟩
    ·rw [b_new j (by omega)] at ho
     cases hx : Hs'[ids.length + (j - H.length)]? with
     | none => simp [hx] at ho
     | some o' =>
      simp [hx] at ho
      subst ho
      refine .inl ⟨ids.length + (j - H.length), ⟨o', hx, O.ren_live.1 hl⟩, by rw [← hp]; exact (if_neg hj).symm, ?_⟩
      simp only [nm]
      rw [if_neg (by omega)]
      congr 1; omega
   have apart : ∀ i j p q, Live Hs' i → c'.m i = some p → j < H.length → j ∉ ids → Live H j → C.m j = some q → p.null = false → q.null = false → p.block ≠ q.block := by
    intro i j p q hl hp hj hm hl2 hq hpn hqn he
    have hno := blocks j q hj hm hl2 hq hqn
    have hlt := hH.owns_lt ⟨j, q, hl2, hq, hqn, rfl⟩
    rcases hadv.fresh i p hp hpn with h1 | h1 | h1
    ·obtain ⟨hi, hp'⟩ := cm_some i p h1
     obtain ⟨o, ho, hHo, _⟩ := hid i hi
     have := hH.inj _ _ p q ⟨_, hHo, O.ren_live.2 (hlive i o ho)⟩ hl2 hp' hq hpn hqn he
     exact hm (this ▸ List.getElem_mem _)
    ·rw [he] at h1; exact hno h1
    ·omega
   intro j j' p q hj hj' hp hq hpn hqn he
   rcases name j p hj hp with ⟨i, hi, hip, hin⟩ | ⟨h1, h2, h3, h4⟩ <;> rcases name j' q hj' hq with ⟨i', hi', hip', hin'⟩ | ⟨k1, k2, k3, k4⟩
   ·have := hh'.inj i i' p q hi hi' hip hip' hpn hqn he
    subst this
    rw [hin] at hin'; cases hin'; rfl
   ·exact absurd he (apart i j' p q hi hip k1 k2 k3 k4 hpn hqn)
   ·exact absurd he.symm (apart i' j q p hi' hip' h1 h2 h3 h4 hqn hpn)
   ·exact hH.inj j j' p q h3 k3 h4 k4 hpn hqn he
 refine ⟨v0.ren (nm ids H.length), back ids H Hs', C', cv, ⟨v0, Hs', hPost, rfl, rfl⟩, rfl, hv.to_ren _ to_nm, hHRel, ?_⟩
 refine ⟨Cext, hadv.ro, by rw [blen]; omega, ?_, hadv.size, fun b hb hno => hadv.frame b hb fun ho => hno (owns b ho), ?_, ?_, hadv.os, hadv.output, hadv.tape⟩
 ·intro j hj hl
  by_cases hm : j ∈ ids
  ·obtain ⟨i, hi, rfl⟩ := List.getElem_of_mem hm
   obtain ⟨o, ho, hHo, _⟩ := hid i hi
   exact ⟨_, hHo, O.ren_live.2 (hlive i o ho)⟩
  ·obtain ⟨o, ho, hl⟩ := hl
   rw [b_out j hj hm] at ho
   exact ⟨o, ho, hl⟩
 ·intro j p hp hpn
  by_cases hj : j < H.length
  ·left; rw [← hp]; exact (if_pos hj).symm
  ·have hp' : c'.m (ids.length + (j - H.length)) = some p := by rw [← hp]; exact (if_neg hj).symm
   rcases hadv.fresh _ p hp' hpn with h1 | h1 | h1
   ·obtain ⟨hi, _⟩ := cm_some _ _ h1; omega
   ·exact .inr (.inl (owns _ h1))
   ·exact .inr (.inr h1)
 ·intro b cs hb
  rcases hadv.freshro b cs hb with h1 | h1 | h1
  ·exact .inl h1
  ·exact .inr (.inl (owns _ h1))
  ·exact .inr (.inr h1)
end Sx
namespace Sx
open Go
set_option linter.unusedSimpArgs false
set_option linter.unusedVariables false
inductive Res where
 | done (t : T) (h : List O)
 | call (o : AOper) (rest : List AOper) (t : T) (h : List O)
 | stuck (o : AOper) (t : T) (h : List O)
def guardB (t : T) : Option (Nat × Bool) → Option Bool
 | none => some true
 | some (j, want) => match t j with
  | .bool v => some (v == want)
  | .tup [] => some false
  | _ => none
def isCall : AOp → Bool
 | .call .. => true
 | _ => false
def execOps : List AOper → T → List O → Res
 | [], t, h => .done t h
 | ⟨d, g, o⟩ :: l, t, h => match guardB t g with
  | some true => if isCall o = true then .call ⟨d, g, o⟩ l t h else (match opStep t h o with
   | some (v, h') => execOps l (put t d v) h'
   | none => .stuck ⟨d, g, o⟩ t h)
  | some false => execOps l (put t d (.tup [])) h
  | none => .stuck ⟨d, g, o⟩ t h
section rules
variable {E : Env} {k : List AItem} {t : T} {h : List O}
theorem Run.skip (hr : Run E ⟨k, t, h⟩) : Run E ⟨.code .skip :: k, t, h⟩ := Run.step hr
theorem Run.seq {a b} (hr : Run E ⟨.code a :: .code b :: k, t, h⟩) : Run E ⟨.code (.seq a b) :: k, t, h⟩ := Run.step hr
theorem Run.block {id c} (hr : Run E ⟨.code c :: .endB id :: k, t, h⟩) : Run E ⟨.code (.block id c) :: k, t, h⟩ := Run.step hr
theorem Run.endB {id} (hr : Run E ⟨k, t, h⟩) : Run E ⟨.endB id :: k, t, h⟩ := Run.step hr
theorem Run.exit {id k'} (hu : unwind id k = some k') (hr : Run E ⟨k', t, h⟩) : Run E ⟨.code (.exit id) :: k, t, h⟩ := by
 refine Run.step ?_
 simp only [step1, hu]
 exact hr
theorem Run.cond {o a b v} (hv : o.ev t = .bool v) (h1 : v = true → Run E ⟨.code a :: k, t, h⟩) (h2 : v = false → Run E ⟨.code b :: k, t, h⟩) : Run E ⟨.code (.cond o a b) :: k, t, h⟩ := by
 refine Run.step ?_
 simp only [step1, hv]
 exact ⟨h1, h2⟩
theorem Run.condT {o a b} (hv : o.ev t = .bool true) (h1 : Run E ⟨.code a :: k, t, h⟩) : Run E ⟨.code (.cond o a b) :: k, t, h⟩ := Run.cond hv (fun _ => h1) (fun h => by cases h)
theorem Run.condF {o a b} (hv : o.ev t = .bool false) (h1 : Run E ⟨.code b :: k, t, h⟩) : Run E ⟨.code (.cond o a b) :: k, t, h⟩ := Run.cond hv (fun h => by cases h) (fun _ => h1)
end rules
theorem Run.ret0 {E : Env} (hH : E.H0 = []) {fn : Func} (hf : E.P.funcs[E.f.f]? = some fn) {ars} (hr : fn.results.toList.mapM (cRes E.P E.N) = some ars) {k t h} (hk : AtEnd k) {vs} (hv : evs t h ars = some vs)
  (hp : E.Post (mkRes vs) []) (hpure : (mkRes vs).ren (fun _ => none) = mkRes vs) (hw : E.f.isFn := by exact True.intro) : Run E ⟨k, t, h⟩ :=
 Run.ret hf hr hk hv (fun _ => none) (h' := []) ⟨by simp [hH], (fun i hi => by simp [hH] at hi), (fun i j h => by cases h), (fun i o h => by simp at h), (fun i i' j h => by cases h)⟩ hpure.symm hp hw
theorem Tri.any {P : Program} {f : FuncId} {as : List V} {Post : V → Prop} (h : Tri P f as [] (fun v H => Post v ∧ H = [])) (hp : ∀ v ρ, Post v → v.ren ρ = v) (ha : ∀ ρ, V.renL ρ as = as) (H : List O) :
  Tri P f as H (fun v H' => Post v ∧ H' = H) := by
 have := h.frame [] H rfl List.nodup_nil (fun i o h => by simp at h) (fun i hi => by simp at hi)
 rw [ha] at this
 refine this.mono ?_
 rintro v H' ⟨v0, Hs', ⟨h1, rfl⟩, rfl, rfl⟩
 rw [hp _ _ h1]
 exact ⟨h1, by cases H <;> simp [back, setAll]⟩
end Sx
namespace Sx
open Go
set_option linter.unusedSimpArgs false
set_option linter.unusedVariables false
def Opd.rd : Opd → List Nat
 | .t i => [i]
 | .c _ => []
 | .inv i _ => [i]
 | .unw i => [i]
def ordO : Option Opd → List Nat
 | none => []
 | some x => x.rd
def AOp.rd : AOp → List Nat
 | .mv x | .box x | .load x _ | .un _ x | .convI _ x | .convS x | .b2s x | .fld x _ _ | .fldA x _ | .lenS x | .lenL x | .clear x _ | .ext x _ | .nilck x | .capL x | .cvU x | .cvP x _ | .usd x | .lenM x | .mki _ x | .mkm1 _ x | .mkb _ x | .boxT x _ _ => x.rd
 | .pick c a b => c.rd ++ a.rd ++ b.rd
 | .alloc _ | .allocT .. | .dead | .mkm => []
 | .mupd _ m k x => m.rd ++ k.rd ++ x.rd
 | .mget _ m k _ _ | .mdel _ m k => m.rd ++ k.rd
 | .build _ ps => ps.flatMap fun p => p.2.2.rd
 | .bslice _ _ _ ps => ps.flatMap fun p => p.2.rd
 | .store a x _ | .bin _ a x | .eq _ _ a x | .eqG _ _ a x | .idxA a x _ _ | .idxS a x | .idxG a x _ _ _ | .append a x _ _ _ | .copy a x _ | .mks a x _ _ | .appendB a x _ _ | .appendZ a x _ _ _ | .ustr a x _ => a.rd ++ x.rd
 | .slcS x lo hi | .slcA x lo hi _ _ => x.rd ++ ordO lo ++ ordO hi
 | .slc x lo hi mx _ => x.rd ++ ordO lo ++ ordO hi ++ ordO mx
 | .mkf _ cs => cs.flatMap Opd.rd
 | .mm _ xs => xs.flatMap Opd.rd
 | .call f xs => f.rd ++ xs.flatMap Opd.rd
def AOper.rd (o : AOper) : List Nat := o.op.rd ++ (match o.g with | none => [] | some (j, _) => [j])
theorem ev_congr {t t' : T} {x : Opd} (h : ∀ i ∈ x.rd, t i = t' i) : x.ev t = x.ev t' := by
 cases x with
 | t i => exact h i (by simp [Opd.rd])
 | c v => rfl
 | inv i tbl => simp only [Opd.ev, h i (by simp [Opd.rd])]
 | unw i => simp only [Opd.ev, h i (by simp [Opd.rd])]
theorem evs_congr {t t' : T} : ∀ {xs : List Opd}, (∀ i ∈ xs.flatMap Opd.rd, t i = t' i) → xs.map (Opd.ev t) = xs.map (Opd.ev t')
 | [], _ => rfl
 | x :: xs, h => by
  simp only [List.flatMap_cons, List.mem_append] at h
  simp only [List.map_cons, ev_congr (fun i hi => h i (.inl hi)), evs_congr (fun i hi => h i (.inr hi))]
theorem fillAt_congr {t t' : T} : ∀ {ps : List (Nat × Nat × Opd)} {cs : List V}, (∀ i ∈ ps.flatMap (fun p => p.2.2.rd), t i = t' i) → fillAt t cs ps = fillAt t' cs ps
 | [], cs, _ => rfl
 | (a, b, x) :: ps, cs, h => by
  simp only [List.flatMap_cons, List.mem_append] at h
  simp only [fillAt, ev_congr (fun i hi => h i (.inl hi)), fillAt_congr (fun i hi => h i (.inr hi))]
theorem fillEl_congr {t t' : T} {n : Nat} : ∀ {ps : List (Nat × Opd)} {cs : List (List V)}, (∀ i ∈ ps.flatMap (fun p => p.2.rd), t i = t' i) → fillEl t n cs ps = fillEl t' n cs ps
 | [], cs, _ => rfl
 | (a, x) :: ps, cs, h => by
  simp only [List.flatMap_cons, List.mem_append] at h
  simp only [fillEl, ev_congr (fun i hi => h i (.inl hi)), fillEl_congr (fun i hi => h i (.inr hi))]
theorem bound1_congr {t t' : T} {a b : Nat} {x : Option Opd} (h : ∀ i ∈ ordO x, t i = t' i) : bound1 t a b x = bound1 t' a b x := by
 cases x with
 | none => rfl
 | some x => simp only [bound1, ev_congr h]
theorem bounds_congr {t t' : T} {n : Nat} {lo hi : Option Opd} (h : ∀ i ∈ ordO lo ++ ordO hi, t i = t' i) : bounds t n lo hi = bounds t' n lo hi := by
 simp only [List.mem_append] at h
 simp only [bounds, bound1_congr (fun i hi => h i (.inr hi)), bound1_congr (fun i hi => h i (.inl hi))]
theorem boundsC_congr {t t' : T} {m n : Nat} {lo hi : Option Opd} (h : ∀ i ∈ ordO lo ++ ordO hi, t i = t' i) : boundsC t m n lo hi = boundsC t' m n lo hi := by
 simp only [List.mem_append] at h
 simp only [boundsC, bound1_congr (fun i hi => h i (.inr hi)), bound1_congr (fun i hi => h i (.inl hi))]
theorem opStep_congr {t t' : T} {h : List O} {o : AOp} (hr : ∀ i ∈ o.rd, t i = t' i) : opStep t h o = opStep t' h o := by
 cases o <;> simp only [AOp.rd, List.mem_append] at hr <;> simp only [opStep]
 case pick c a b => rw [ev_congr (fun i hi => hr i (.inl (.inl hi))), ev_congr (x := a) (fun i hi => hr i (.inl (.inr hi))), ev_congr (x := b) (fun i hi => hr i (.inr hi))]
 case build z ps => rw [fillAt_congr hr]
 case bslice a b z ps => rw [fillEl_congr hr]
 case slcS x lo hi => simp only [ev_congr (x := x) (fun i hi => hr i (.inl (.inl hi))), bounds_congr (lo := lo) (hi := hi) (fun i hj => hr i (by simp only [List.mem_append] at hj; rcases hj with h | h; exact .inl (.inr h); exact .inr h))]
 case slcA x lo hi n s => simp only [ev_congr (x := x) (fun i hi => hr i (.inl (.inl hi))), bounds_congr (lo := lo) (hi := hi) (fun i hj => hr i (by simp only [List.mem_append] at hj; rcases hj with h | h; exact .inl (.inr h); exact .inr h))]
 case slc x lo hi mx s =>
  have hb : ∀ i ∈ ordO lo ++ ordO hi, t i = t' i := fun i hj => hr i (by simp only [List.mem_append] at hj; rcases hj with h | h; exact .inl (.inl (.inr h)); exact .inl (.inr h))
  cases mx with
  | none => simp only [ev_congr (x := x) (fun i hi => hr i (.inl (.inl (.inl hi)))), bounds_congr hb, boundsC_congr hb]
  | some m => simp only [ev_congr (x := x) (fun i hi => hr i (.inl (.inl (.inl hi)))), ev_congr (x := m) (fun i hi => hr i (.inr hi)), boundsC_congr hb]
 case mkf f cs => rw [evs_congr hr]
 case mm m xs => rw [evs_congr hr]
 case mupd κ m k x => rw [ev_congr (x := m) (fun i hi => hr i (.inl (.inl hi))), ev_congr (x := k) (fun i hi => hr i (.inl (.inr hi))), ev_congr (x := x) (fun i hi => hr i (.inr hi))]
 all_goals first
  | rfl
  | (rw [ev_congr hr])
  | (rw [ev_congr (fun i hi => hr i (.inl hi)), ev_congr (fun i hi => hr i (.inr hi))])
  | (simp only [ev_congr hr])
  | (simp only [ev_congr (fun i hi => hr i (.inl hi)), ev_congr (fun i hi => hr i (.inr hi))])
def TriY (P : Program) (id : Nat) (args : List V) (H : List O) (Post : V → List O → Prop) : Prop :=
 ∀ c w cargs p, HRel c w H → VRels c.ro c.m args cargs → c.m id = some p → p.null = false →
  ∃ f tmps assign body, (Instr.yield p.block cargs).run P w = .ok (.round p.block f tmps assign body) w ∧
   ∀ (fr : Frame) cs, ∃ v w', Steps P (lone (Frame.round p.block f tmps assign body .normal) (fr :: cs) w) (lone (fr.finish v) cs w') ∧ TriR H c w Post (.returned v) w'
theorem VRel.yld_inv {ro m id cv} (h : VRel ro m (.yld id) cv) : ∃ p, m id = some p ∧ p.null = false ∧ cv = .func (.yield p.block) #[] #[] := by cases h; exact ⟨_, by assumption, by assumption, rfl⟩
def AStep (P : Program) (t : T) (h : List O) (o : AOper) (K : T → List O → Prop) : Prop :=
 (guardB t o.g = some false ∧ K (put t o.dst (.tup [])) h) ∨
 (guardB t o.g = some true ∧ ((∃ v h', opStep t h o.op = some (v, h') ∧ K (put t o.dst v) h') ∨
  (∃ fo args f caps Q, o.op = .call fo args ∧ V.calls (fo.ev t) (args.map (Opd.ev t)) = some (f, caps) ∧ Tri P f caps h Q ∧ ∀ v h', Q v h' → K (put t o.dst v) h') ∨
  (∃ fo args id Q, o.op = .call fo args ∧ fo.ev t = .yld id ∧ TriY P id (args.map (Opd.ev t)) h Q ∧ ∀ v h', Q v h' → K (put t o.dst v) h')))
theorem guard_wanted {N c t a ops} {o : Oper} (ht : TRel N c t a) {g : Option (Nat × Bool)} (hg : GuardOk N ops o g) {b : Bool} (hb : guardB t g = some b) : Region.wanted o (yielded ops a.tmps) = b := by
 obtain ⟨w1, w2⟩ := wanted_of ht hg
 cases g with
 | none => simp [guardB] at hb; subst hb; exact w1 rfl
 | some jw =>
  obtain ⟨j, want⟩ := jw
  simp only [guardB] at hb
  split at hb
  ·rename_i v hv
   cases hb
   rw [w2.1 j want v rfl hv]
   cases v <;> cases want <;> rfl
  ·rename_i hv
   cases hb
   exact w2.2 j want rfl hv
  ·cases hb
theorem astep_goes {P : Program} {N : Nat} {c0 w0 H0} (h0 : HRel c0 w0 H0) {c w a t h} (hadv : Adv c0 w0 H0 c w h) (hh : HRel c w h) (ht : TRel N c t a) {ds : List Deferred} (hd : a.defers = ds) {b : Frame} {cs items ops i todo} {R : Ending → World → Frame → Prop}
  {o : Oper} {ao : AOper} (ho : ops[i]? = some o) (hco : cOper P N ops o = some ao) {K : T → List O → Prop} (hs : AStep P t h ao K)
  (next : ∀ c' w' a' t' h', Adv c0 w0 H0 c' w' h' → HRel c' w' h' → Adv c w h c' w' h' → TRel N c' t' a' → a'.defers = ds → (∃ v, t' = put t ao.dst v) → K t' h' → Goes P b R (.inRegion ops todo :: items) cs a' w') :
  Goes P b R (.inRegion ops (i :: todo) :: items) cs a w := by
 obtain ⟨d, g, op⟩ := ao
 obtain ⟨hcp, hdst, hdN, hgd⟩ := cOper_spec hco
 have hdef : ∀ v, (a.put o.dst v).defers = ds := fun v => by cases o.dst <;> exact hd
 have hfin := fun v => region_finish (b := b) (a := a) (rest := todo) (k := items) ho v
 rcases hs with ⟨hg, hK⟩ | ⟨hg, hs⟩
 ·have hw := guard_wanted ht hgd hg
  refine Goes.step (stepR_op_skip (by simp [ho, hw])) ?_
  simp only [ho, Option.bind_some]
  exact next c w _ _ h hadv hh (Adv.refl ..) (by rw [hdst]; exact ht.put d hdN (.tup _ _ _ rfl fun i h => by simp at h)) (hdef _) ⟨_, rfl⟩ hK
 ·have hw := guard_wanted ht hgd hg
  have hgop := stepGR (P := P) (b := b) (k := items) (cs := cs) (w := w) (rest := todo) ho hw hcp
  rcases hs with ⟨v, h', hop, hK⟩ | ⟨fo, args, f, caps, Q, hoc, hf, htri, hQ⟩ | ⟨fo, args, id, Q, hoc, hf, htri, hQ⟩
  ·obtain ⟨r, w', c', h1, h2, h3, h4⟩ := op_sound (P := P) hh ht hcp hop
   have ht' := ht.mono h4.m h4.ro
   rcases h2 with ⟨cv, rfl, hv⟩ | ⟨rfl, rfl⟩
   ·refine Goes.step (a' := a.put o.dst cv) (k' := .inRegion ops todo :: items) (w' := w') (step_lone_go ?_) ?_
    ·rw [hgop, ← hfin]; simp [stepG.apply, h1]
    ·exact next c' w' _ _ h' (hadv.trans h0 h4) h3 h4 (by rw [hdst]; exact ht'.put d hdN hv) (hdef _) ⟨_, rfl⟩ hK
   ·refine Goes.step (a' := a.put o.dst undef) (k' := .inRegion ops todo :: items) (w' := w') (step_lone_go ?_) ?_
    ·rw [hgop, ← hfin]; simp [stepG.apply, h1]
    ·exact next c' w' _ _ h' (hadv.trans h0 h4) h3 h4 (by rw [hdst]; exact ht'.put d hdN (.any ..)) (hdef _) ⟨_, rfl⟩ hK
  ·simp only at hoc
   subst hoc
   obtain ⟨odst, oop, ty, pos, after, guard⟩ := o
   simp only at hcp hdst
   obtain ⟨⟨fn, hfn, hbody, hname⟩, hcalls⟩ := htri
   obtain ⟨cargs, hcargs, hex⟩ := call_exec hcp (w := w) ht hf
   have hcall := hcalls c w _ hh hcargs
   have hexec : (execOp a.eval ⟨odst, oop, ty, pos, after, guard⟩).run P w = .ok (.enter f cargs) w := by
    rw [hex]
    have hn1 : ¬ fn.name = "runtime.NumGoroutine" := by simpa using hname
    have hn2 : ¬ fn.body = none := by intro h; simp [h] at hbody
    simp [Sem.run_bind, callFunc, hfn, hn1, hn2]
   obtain ⟨e, w2', fr, hR, hcomes, hfrf, hleave⟩ := hcall (b.atR a (.inRegion ops (i :: todo) :: items) :: cs)
   obtain ⟨v, H', c', cv, hQv, rfl, hv, hh', hadv'⟩ := hR
   have henter : Go.step P (lone (b.atR a (.inRegion ops (i :: todo) :: items)) cs w) = .next (lone (Frame.enter P f cargs .normal) (b.atR a (.inRegion ops (i :: todo) :: items) :: cs) w) :=
    step_lone_go (by rw [hgop]; simp [stepG.apply, hexec, Frame.atR])
   refine Goes.steps (a' := a.put odst cv) (k' := .inRegion ops todo :: items) (w' := w2') (.head henter (hcomes.trans (.one ?_))) ?_
   ·rw [← hfin cv]; exact step_leave_returned hleave
   ·exact next c' w2' _ _ H' (hadv.trans h0 hadv') hh' hadv' (by rw [hdst]; exact (ht.mono hadv'.m hadv'.ro).put d hdN hv) (hdef _) ⟨_, rfl⟩ (hQ v H' hQv)
  ·simp only at hoc
   subst hoc
   obtain ⟨odst, oop, ty, pos, after, guard⟩ := o
   simp only at hcp hdst
   obtain ⟨fo', args', ats, rfl, hfo, hargs⟩ := call_yld hcp hf
   have r1 := opd_rel ht hfo
   rw [hf] at r1
   obtain ⟨p, hp, hpn, hcs1⟩ := r1.yld_inv
   have r2 := opds_rel ht hargs
   obtain ⟨f, tmps, assign, body, hy, hround⟩ := htri c w _ p hh r2 hp hpn
   have hexec : (execOp a.eval ⟨odst, .call { callee := .value fo', args := args', argTypes := ats }, ty, pos, after, guard⟩).run P w = .ok (.round p.block f tmps assign body) w := by
    simp [execOp, resolve, Sem.run_bind, hcs1, Deferred.ofValue, invoke, hy]
   obtain ⟨cv, w2, hsteps, v, H', c', cv', hQv, hcv, hv, hh', hadv'⟩ := hround (b.atR a (.inRegion ops (i :: todo) :: items)) cs
   cases hcv
   have henter : Go.step P (lone (b.atR a (.inRegion ops (i :: todo) :: items)) cs w) = .next (lone (Frame.round p.block f tmps assign body .normal) (b.atR a (.inRegion ops (i :: todo) :: items) :: cs) w) :=
    step_lone_go (by rw [hgop]; simp [stepG.apply, hexec, Frame.atR])
   refine Goes.steps (a' := a.put odst cv) (k' := .inRegion ops todo :: items) (w' := w2) (.head henter (hfin cv ▸ hsteps)) ?_
   exact next c' w2 _ _ H' (hadv.trans h0 hadv') hh' hadv' (by rw [hdst]; exact (ht.mono hadv'.m hadv'.ro).put d hdN hv) (hdef _) ⟨_, rfl⟩ (hQ v H' hQv)
def Sched (ops : Array Oper) : List Nat → List Nat → Prop
 | done, [] => ∀ j, j < ops.size → j ∈ done
 | done, j :: todo => j ∉ done ∧ (∃ o, ops[j]? = some o ∧ ∀ e ∈ o.after, Region.binds .any e = true → e.on ∈ done) ∧ Sched ops (j :: done) todo
theorem sched_linearise {ops : Array Oper} (hb : ∀ (i : Nat) (o : Oper), ops[i]? = some o → ∀ e ∈ o.after, Region.binds .any e = true → e.on < i) : ∀ (fuel t : Nat) (listed : Array Bool) (done : List Nat),
  listed.size = ops.size → (∀ j, j < ops.size → (listed.getD j false = true ↔ j ∈ done)) → ((List.range ops.size).filter (fun j => !listed.getD j false)).length ≤ fuel →
  Sched ops done (Region.linearise.go .any ops fuel t listed []) := by
 intro fuel
 induction fuel with
 | zero =>
  intro t listed done hsz hl hf
  simp only [Region.linearise.go, List.reverse_nil, Sched]
  intro j hj
  refine (hl j hj).1 ?_
  have hnil : (List.range ops.size).filter (fun j => !listed.getD j false) = [] := List.eq_nil_of_length_eq_zero (by omega)
  have := List.filter_eq_nil_iff.1 hnil j (List.mem_range.2 hj)
  simpa using this
 | succ fuel ih =>
  intro t listed done hsz hl hf
  simp only [Region.linearise.go]
  change Sched ops done (match (Region.ready .any ops listed)[t % (Region.ready .any ops listed).length]? with
   | some i => Region.linearise.go .any ops fuel (t / (Region.ready .any ops listed).length) (listed.setIfInBounds i true) [i]
   | none => [].reverse)
  cases hi : (Region.ready .any ops listed)[t % (Region.ready .any ops listed).length]? with
  | none =>
   -- nothing is ready: all are listed
   have hnil : Region.ready .any ops listed = [] := by
    cases hr : Region.ready .any ops listed with
    | nil => rfl
    | cons x xs =>
     rw [hr] at hi
     have hlt : t % (x :: xs).length < (x :: xs).length := Nat.mod_lt _ (by simp)
     rw [List.getElem?_eq_getElem hlt] at hi
     cases hi
   simp only [List.reverse_nil, Sched]
   have key : ∀ n j, j < n → j < ops.size → j ∈ done := by
    intro n
    induction n with
    | zero => intro j h; omega
    | succ n ihn =>
     intro j hjn hj
     rcases Nat.lt_or_ge j n with h1 | h1
     ·exact ihn j h1 hj
     ·have : j = n := by omega
      subst this
      refine Classical.byContradiction fun hno => ?_
      have hmem : j ∈ Region.ready .any ops listed := by
       rw [mem_ready]
       have hlj : listed.getD j false = false := by
        cases hx : listed.getD j false with
        | false => rfl
        | true => exact absurd ((hl j hj).1 hx) hno
       refine ⟨?_, ops[j], Array.getElem?_eq_getElem hj, fun e he hbe => ?_⟩
       ·rw [Array.getD_eq_getD_getElem?, Array.getElem?_eq_getElem (by omega)] at hlj ⊢
        simpa using hlj
       ·have hlt := hb j _ (Array.getElem?_eq_getElem hj) e he hbe
        exact (hl e.on (by omega)).2 (ihn e.on hlt (by omega))
      rw [hnil] at hmem
      cases hmem
   exact fun j hj => key (j + 1) j (by omega) hj
  | some i =>
   simp only []
   rw [linearise_go_acc, List.reverse_singleton, List.singleton_append]
   have hir := List.mem_of_getElem? hi
   obtain ⟨h1, o, ho, h2⟩ := mem_ready.1 hir
   have hilt : i < ops.size := (Array.getElem?_eq_some_iff.1 ho).1
   have hlf : listed.getD i false = false := by
    rw [Array.getD_eq_getD_getElem?, Array.getElem?_eq_getElem (by omega)] at h1 ⊢
    simpa using h1
   refine ⟨fun hd => ?_, ⟨o, ho, fun e he hbe => ?_⟩, ?_⟩
   ·rw [(hl i hilt).2 hd] at hlf; cases hlf
   ·have hlt := hb i o ho e he hbe
    exact (hl e.on (by omega)).1 (h2 e he hbe)
   ·refine ih _ _ (i :: done) (by simpa using hsz) (fun j hj => ?_) ?_
    ·by_cases e : i = j
     ·subst e; simp [hsz, hilt]
     ·rw [getD_set_ne false e, hl j hj]
      simp [Ne.symm e]
    ·have hsub : ((List.range ops.size).filter (fun j => !(listed.setIfInBounds i true).getD j false)).length < ((List.range ops.size).filter (fun j => !listed.getD j false)).length := by
      have h3 : (List.range ops.size).filter (fun j => !(listed.setIfInBounds i true).getD j false) = ((List.range ops.size).filter (fun j => !listed.getD j false)).filter (fun j => j != i) := by
       rw [List.filter_filter]
       refine List.filter_congr fun j hj => ?_
       by_cases e : i = j
       ·subst e; simp [hsz, hilt]
       ·rw [getD_set_ne false e]
        simp [Ne.symm e]
      rw [h3]
      have hmem : i ∈ (List.range ops.size).filter (fun j => !listed.getD j false) := by
       rw [List.mem_filter]; exact ⟨List.mem_range.2 hilt, by simp [hlf]⟩
      exact List.length_filter_lt_length_iff_exists.2 ⟨i, hmem, by simp⟩
     omega
end Sx
namespace Sx
open Go
set_option linter.unusedSimpArgs false
set_option linter.unusedVariables false
abbrev DL := List (AOper × List Nat)
def DL.dst (L : DL) (i : Nat) : Option Nat := (L[i]?).bind (·.1.dst)
def DL.deps (L : DL) (i : Nat) : List Nat := ((L[i]?).map (·.2)).getD []
def DL.rd (L : DL) (i : Nat) : List Nat := ((L[i]?).map (·.1.rd)).getD []
def DRel (P : Program) (N : Nat) (ops : Array Oper) (L : DL) : Prop := ops.toList.zipIdx.mapM (cDraw1 P N ops) = some L
theorem DRel.size {P N ops L} (h : DRel P N ops L) : ops.size = L.length := by simpa using (mapM_some _ _ _ h).1
theorem DRel.get {P N ops L} (h : DRel P N ops L) {i : Nat} {o : Oper} (ho : ops[i]? = some o) : ∃ ao, L[i]? = some (ao, depsOf o) ∧ cOper P N ops o = some ao ∧ (∀ j ∈ depsOf o, j < i) := by
 obtain ⟨h1, h2⟩ := mapM_some _ _ _ h
 obtain ⟨hi, rfl⟩ := Array.getElem?_eq_some_iff.1 ho
 have hi' : i < L.length := by rw [← DRel.size h]; exact hi
 have := h2 i (by simpa using hi) hi'
 simp only [List.getElem_zipIdx, Array.getElem_toList, Nat.zero_add] at this
 unfold cDraw1 at this
 split at this
 case h_2 => cases this
 case h_1 a ha =>
  split at this
  case isFalse => cases this
  case isTrue hall =>
   refine ⟨a, ?_, ha, fun j hj => by simpa using List.all_eq_true.1 hall j hj⟩
   rw [List.getElem?_eq_getElem hi']
   simp only [Option.some.injEq] at this ⊢
   exact this.symm
theorem mem_deps {o : Oper} {done : List Nat} (h : ∀ e ∈ o.after, Region.binds .any e = true → e.on ∈ done) : ∀ j ∈ depsOf o, j ∈ done := by
 intro j hj
 simp only [depsOf, List.mem_map, List.mem_filter] at hj
 obtain ⟨e, ⟨he, hb⟩, rfl⟩ := hj
 exact h e (by simpa using he) hb
def hidden (L : DL) (pend done : List Nat) : List Nat := (pend.filter (fun j => !done.contains j)).filterMap L.dst
def mask (t : T) (X : List Nat) : T := fun i => if i ∈ X then .any else t i
def Closed (ops : Array Oper) (done : List Nat) : Prop := ∀ j o, j ∈ done → ops[j]? = some o → ∀ e ∈ o.after, Region.binds .any e = true → e.on ∈ done
theorem Closed.cons {ops : Array Oper} {done : List Nat} (h : Closed ops done) {j o} (ho : ops[j]? = some o) (hd : ∀ e ∈ o.after, Region.binds .any e = true → e.on ∈ done) : Closed ops (j :: done) := by
 intro i o' hi ho' e he hb
 rcases List.mem_cons.1 hi with rfl | hi
 ·rw [ho] at ho'; cases ho'; exact List.mem_cons_of_mem _ (hd e he hb)
 ·exact List.mem_cons_of_mem _ (h i o' hi ho' e he hb)
def clo (L : DL) : Nat → List Nat → List Nat
 | 0, ds => ds
 | n + 1, ds => clo L n ((List.range L.length).filter fun x => ds.contains x || ds.any fun y => (L.deps y).contains x)
theorem clo_done {P N ops L} (hD : DRel P N ops L) {done : List Nat} (hc : Closed ops done) : ∀ n ds, (∀ d ∈ ds, d ∈ done) → ∀ d ∈ clo L n ds, d ∈ done
 | 0, ds, h, d, hd => h d hd
 | n + 1, ds, h, d, hd => by
  refine clo_done hD hc n _ (fun x hx => ?_) d hd
  simp only [List.mem_filter, Bool.or_eq_true, List.contains_eq_mem, decide_eq_true_eq, List.any_eq_true] at hx
  rcases hx.2 with hx | ⟨y, hy, hxy⟩
  ·exact h x hx
  ·have hyd := h y hy
   cases hL : L[y]? with
   | none => simp [DL.deps, hL] at hxy
   | some yo =>
    have hlt : y < ops.size := by rw [hD.size]; exact (List.getElem?_eq_some_iff.1 hL).1
    obtain ⟨ao, h1, _, _⟩ := hD.get (Array.getElem?_eq_getElem hlt)
    have : L.deps y = depsOf ops[y] := by simp [DL.deps, h1]
    rw [this] at hxy
    exact mem_deps (hc y _ hyd (Array.getElem?_eq_getElem hlt)) x hxy
def RunD (E : Env) (L : DL) (rest pend : List Nat) (k : List AItem) (t : T) (h : List O) : Prop :=
 ∀ ops, DRel E.P E.N ops L → ∀ c0 w0, HRel c0 w0 E.H0 → ∀ c w a done todo, Adv c0 w0 E.H0 c w h → HRel c w h → Sched ops done todo → Closed ops done → (∀ i ∈ done, i ∉ rest) → (∀ i, i < L.length → i ∉ rest → i ∉ pend → i ∈ done) →
  TRel E.N c (mask t (hidden L pend done)) a → a.defers = E.f.ds → ∀ (b : Frame) items cs, b.fn = E.f.f → E.f.ok c0 b → KRel E.P E.N k items → Goes E.P b (E.F c0 w0) (.inRegion ops todo :: items) cs a w
theorem Run.drawn {E : Env} (hm : E.P.follows .mixedOrders = true) {L k t h} (hr : RunD E L (List.range L.length) [] k t h) : Run E ⟨.code (.drawn L) :: k, t, h⟩ := by
 intro c0 w0 h0 c w a hadv hh ht hd b items cs hb hbk hk
 simp only at hadv hh ht hk
 cases hk with
 | @cons _ y _ items hx hk =>
 cases hx with
 | code hc =>
 obtain ⟨id, ops, rfl, hl⟩ := cCode_drawn hc
 have hD : DRel E.P E.N ops L := hl
 refine Goes.step stepR_region_draw ?_
 simp only [Region.schedule, hm, Bool.true_or, if_true]
 have hadv' : Adv c w h c { w with drawn := w.drawn + 1 } h := ⟨fun _ _ h => h, fun _ _ h => h, Nat.le_refl _, fun _ _ h => h, Nat.le_refl _, fun _ _ _ => rfl, fun _ _ h _ => .inl h, fun _ _ h => .inl h, rfl, rfl, rfl⟩
 have hh' : HRel c { w with drawn := w.drawn + 1 } h := ⟨hh.ro, hh.dom, fun i o ho hl => let ⟨p, h1, h2, h3⟩ := hh.obj i o ho hl; ⟨p, h1, h2.mono (fun _ _ h => h) (fun _ _ h => h) (fun _ => rfl), h3⟩, hh.inj, hh.glob⟩
 refine hr ops hD c0 w0 h0 c _ a [] _ (hadv.trans h0 hadv') hh' ?_ (fun j o hj => by cases hj) (fun i hi => by cases hi) (fun i hi hn => absurd (List.mem_range.2 hi) hn) ?_ hd b items cs hb hbk hk
 ·refine sched_linearise (fun i o ho e he hbe => ?_) ops.size _ _ [] (by simp) (fun j hj => ?_) ?_
  ·obtain ⟨ao, _, _, h3⟩ := hD.get ho
   exact h3 e.on (by simp only [depsOf, List.mem_map, List.mem_filter]; exact ⟨e, ⟨by simpa using he, hbe⟩, rfl⟩)
  ·simp [hj]
  ·refine Nat.le_trans (List.length_filter_le _ _) (by simp)
 ·exact ht
theorem RunD.float {E : Env} {L rest pend k t h} (x : Nat) (v : V) (hx : x ∈ rest) (hn : rest.Nodup) (hr : RunD E L (rest.erase x) (x :: pend) k (put t (L.dst x) v) h) : RunD E L rest pend k t h := by
 intro ops hD c0 w0 h0 c w a done todo hadv hh hs hcl hdr hall ht hd b items cs hb hbk hk
 have hxd : x ∉ done := fun h => hdr x h hx
 refine hr ops hD c0 w0 h0 c w a done todo hadv hh hs hcl (fun i hi hm => hdr i hi (List.mem_of_mem_erase hm)) (fun i hi h1 h2 => ?_) ⟨ht.size, fun i => ?_⟩ hd b items cs hb hbk hk
 ·refine hall i hi (fun hm => ?_) (fun hm => h2 (List.mem_cons_of_mem _ hm))
  have : i ≠ x := fun e => h2 (by rw [e]; exact List.mem_cons_self)
  exact h1 ((List.mem_erase_of_ne this).2 hm)
 ·have := ht.rel i
  have hhid : hidden L (x :: pend) done = (L.dst x).toList ++ hidden L pend done := by
   simp only [hidden, List.filter_cons, List.contains_eq_mem, hxd, decide_false, Bool.not_false, if_true, List.filterMap_cons]
   cases L.dst x <;> rfl
  rw [hhid]
  simp only [mask, List.mem_append] at this ⊢
  by_cases h1 : i ∈ hidden L pend done
  ·rw [if_pos (.inr h1)]; exact .any ..
  ·rw [if_neg h1] at this
   cases hdx : L.dst x with
   | none => simp only [Option.toList, List.not_mem_nil, false_or, if_neg h1, put]; exact this
   | some d =>
    by_cases e : i = d
    ·subst e; simp; exact .any ..
    ·simp only [Option.toList, List.mem_singleton, e, false_or, if_neg h1, put, upd, if_false]; exact this
def TRelLe (t t' : T) : Prop := ∀ i, t i = t' i ∨ t' i = .any
theorem TRel.le {N c t t' a} (h : TRel N c t a) (hl : TRelLe t t') : TRel N c t' a := ⟨h.size, fun i => by
 rcases hl i with e | e
 ·rw [← e]; exact h.rel i
 ·rw [e]; exact .any ..⟩
def CallIs (P : Program) (t : T) (h : List O) (op : AOp) (v : V) : Prop :=
 ∃ fo args f caps Q, op = .call fo args ∧ V.calls (fo.ev t) (args.map (Opd.ev t)) = some (f, caps) ∧ Tri P f caps h Q ∧ ∀ v' h', Q v' h' → v' = v ∧ h' = h
theorem CallIs.congr {P t t' h op v} (hr : ∀ i ∈ op.rd, t i = t' i) (hc : CallIs P t h op v) : CallIs P t' h op v := by
 obtain ⟨fo, args, f, caps, Q, h3, h4, h5, h6⟩ := hc
 subst h3
 refine ⟨fo, args, f, caps, Q, rfl, ?_, ?_, h6⟩
 ·have : args.map (Opd.ev t) = args.map (Opd.ev t') := evs_congr fun i hi => hr i (by
   simp only [AOp.rd, List.mem_append]; exact .inr hi)
  rw [← h4, ← this, ev_congr fun i hi => hr i (by simp [AOp.rd, hi])]
 ·exact h5
def PendOk (P : Program) (L : DL) (t : T) (h : List O) : List Nat → Prop
 | [] => True
 | x :: xs => (match L[x]? with
  | none => True
  | some (o, _) => (guardB t o.g = some true ∧ ∃ v, (opStep t h o.op = some (v, h) ∨ CallIs P t h o.op v) ∧ ∀ d, o.dst = some d → t d = v) ∨ (guardB t o.g = some false ∧ ∀ d, o.dst = some d → t d = .tup [])) ∧ PendOk P L t h xs
theorem PendOk.get {P : Program} {L : DL} {t h} : ∀ {pend : List Nat}, PendOk P L t h pend → ∀ x ∈ pend, ∀ o ds, L[x]? = some (o, ds) → (guardB t o.g = some true ∧ ∃ v, (opStep t h o.op = some (v, h) ∨ CallIs P t h o.op v) ∧ ∀ d, o.dst = some d → t d = v) ∨ (guardB t o.g = some false ∧ ∀ d, o.dst = some d → t d = .tup [])
 | y :: ys, hp, x, hx, o, ds, ho => by
  rcases List.mem_cons.1 hx with rfl | hx
  ·have := hp.1
   rw [ho] at this
   exact this
  ·exact hp.2.get x hx o ds ho
def statOk (L : DL) (rest pend : List Nat) : Bool :=
 pend.all fun x => match L.dst x with
  | none => true
  | some d => (pend.all fun y => (L.deps y).contains x || !(L.rd y).contains d) && (pend.all fun y => y == x || L.dst y != some d) && rest.all fun y => (L.deps y).contains x || !(L.rd y).contains d
theorem guardB_congr {t t' : T} {g : Option (Nat × Bool)} (h : ∀ j b, g = some (j, b) → t j = t' j) : guardB t g = guardB t' g := by
 cases g with
 | none => rfl
 | some jb => obtain ⟨j, b⟩ := jb; simp only [guardB, h j b rfl]
theorem AStep.congr {P t t' h o K K'} (hr : ∀ i ∈ o.rd, t i = t' i) (hs : AStep P t h o K) (hk : ∀ v h', K (put t o.dst v) h' → K' (put t' o.dst v) h') : AStep P t' h o K' := by
 have hg : guardB t o.g = guardB t' o.g := guardB_congr fun j b e => hr j (by simp only [AOper.rd, e]; simp)
 have hop : opStep t h o.op = opStep t' h o.op := opStep_congr fun i hi => hr i (by simp only [AOper.rd]; simp [hi])
 rcases hs with ⟨h1, h2⟩ | ⟨h1, h2⟩
 ·exact .inl ⟨hg ▸ h1, hk _ _ h2⟩
 ·refine .inr ⟨hg ▸ h1, ?_⟩
  rcases h2 with ⟨v, h', h3, h4⟩ | ⟨fo, args, f, caps, Q, h3, h4, h5, h6⟩ | ⟨fo, args, f, Q, h3, h4, h5, h6⟩
  ·exact .inl ⟨v, h', hop ▸ h3, hk _ _ h4⟩
  ·refine .inr (.inl ⟨fo, args, f, caps, Q, h3, ?_, h5, fun v h' hq => hk _ _ (h6 v h' hq)⟩)
   have : args.map (Opd.ev t) = args.map (Opd.ev t') := evs_congr fun i hi => hr i (by
    simp only [AOper.rd, h3, AOp.rd, List.mem_append]; exact .inl (.inr hi))
   rw [← h4, ← this, ev_congr fun i hi => hr i (by simp [AOper.rd, h3, AOp.rd, hi])]
  ·refine .inr (.inr ⟨fo, args, f, Q, h3, ?_, ?_, fun v h' hq => hk _ _ (h6 v h' hq)⟩)
   ·rw [← h4]; exact (ev_congr fun i hi => hr i (by simp [AOper.rd, h3, AOp.rd, hi])).symm
   ·have : args.map (Opd.ev t) = args.map (Opd.ev t') := evs_congr fun i hi => hr i (by
     simp only [AOper.rd, h3, AOp.rd, List.mem_append]; exact .inl (.inr hi))
    rw [← this]; exact h5
theorem mem_hidden {L : DL} {pend done : List Nat} {d : Nat} : d ∈ hidden L pend done ↔ ∃ x ∈ pend, x ∉ done ∧ L.dst x = some d := by
 simp only [hidden, List.mem_filterMap, List.mem_filter, Bool.not_eq_true', List.contains_eq_mem, decide_eq_false_iff_not]
 exact ⟨fun ⟨x, ⟨a, b⟩, c⟩ => ⟨x, a, b, c⟩, fun ⟨x, a, b, c⟩ => ⟨x, ⟨a, b⟩, c⟩⟩
theorem read_clear {L : DL} {rest pend : List Nat} (hst : statOk L rest pend = true) {t : T} {done j ao ds} (hL : L[j]? = some (ao, ds)) (hds : ∀ x ∈ ds, x ∈ done) (hj : j ∈ pend ∨ j ∈ rest) : ∀ i ∈ ao.rd, t i = mask t (hidden L pend done) i := by
 intro i hi
 have hdd : L.deps j = ds := by simp [DL.deps, hL]
 have hrd : L.rd j = ao.rd := by simp [DL.rd, hL]
 simp only [mask]
 rw [if_neg]
 intro hm
 obtain ⟨x, hx, hxd, hxs⟩ := mem_hidden.1 hm
 have := List.all_eq_true.1 hst x hx
 simp only [hxs, Bool.and_eq_true] at this
 have key : ((L.deps j).contains x || !(L.rd j).contains i) = true := by
  rcases hj with hj | hj
  ·exact List.all_eq_true.1 this.1.1 j hj
  ·exact List.all_eq_true.1 this.2 j hj
 rw [hdd, hrd] at key
 simp only [List.contains_eq_mem, hi, decide_true, Bool.not_true, Bool.or_false, decide_eq_true_eq] at key
 exact hxd (hds x key)
theorem pend_goes {E : Env} {L : DL} {rest pend : List Nat} {t : T} {h : List O} (hst : statOk L rest pend = true) (hpo : PendOk E.P L t h pend) {ops} (hD : DRel E.P E.N ops L) {c0 w0} (h0 : HRel c0 w0 E.H0) {c w a done j todo}
  (hadv : Adv c0 w0 E.H0 c w h) (hh : HRel c w h) (hs : Sched ops done (j :: todo)) (hj : j ∈ pend) (ht : TRel E.N c (mask t (hidden L pend done)) a) (hd : a.defers = E.f.ds) {b : Frame} {items cs}
  (next : ∀ c' w' a', Adv c0 w0 E.H0 c' w' h → HRel c' w' h → TRel E.N c' (mask t (hidden L pend (j :: done))) a' → a'.defers = E.f.ds → Goes E.P b (E.F c0 w0) (.inRegion ops todo :: items) cs a' w') :
  Goes E.P b (E.F c0 w0) (.inRegion ops (j :: todo) :: items) cs a w := by
 obtain ⟨hjd, ⟨o, ho, hdeps⟩, hs'⟩ := hs
 obtain ⟨ao, hL, hco, _⟩ := hD.get ho
 have hdst : L.dst j = ao.dst := by simp [DL.dst, hL]
 have hread := read_clear (t := t) hst hL (mem_deps hdeps) (.inl hj)
 have hval : ∃ v, (∀ d, ao.dst = some d → t d = v) ∧ AStep E.P t h ao (fun t' h' => t' = put t ao.dst v ∧ h' = h) := by
  rcases hpo.get j hj ao _ hL with ⟨hg, v, hop | hop, hv⟩ | ⟨hg, hv⟩
  ·exact ⟨v, hv, .inr ⟨hg, .inl ⟨v, h, hop, rfl, rfl⟩⟩⟩
  ·obtain ⟨fo, args, f, caps, Q, h3, h4, h5, h6⟩ := hop
   exact ⟨v, hv, .inr ⟨hg, .inr (.inl ⟨fo, args, f, caps, Q, h3, h4, h5, fun v' h' hq => by obtain ⟨rfl, rfl⟩ := h6 v' h' hq; exact ⟨rfl, rfl⟩⟩)⟩⟩
  ·exact ⟨.tup [], hv, .inl ⟨hg, rfl, rfl⟩⟩
 obtain ⟨v, hv, hstep⟩ := hval
 have hput : put t ao.dst v = t := by
  cases hda : ao.dst with
  | none => rfl
  | some d =>
   funext i
   simp only [put, upd]
   split
   ·rename_i e; rw [e]; exact (hv d hda).symm
   ·rfl
 have hstep' : AStep E.P (mask t (hidden L pend done)) h ao (fun t' h' => TRelLe t' (mask t (hidden L pend (j :: done))) ∧ h' = h) := by
  refine hstep.congr hread fun v' h' ⟨h1, h2⟩ => ⟨fun i => ?_, h2⟩
  by_cases hi : i ∈ hidden L pend (j :: done)
  ·exact .inr (by simp [mask, hi])
  ·refine .inl ?_
   have hput' : put t ao.dst v' = t := h1.trans hput
   have h3 : put t ao.dst v' i = t i := congrFun hput' i
   simp only [mask, if_neg hi]
   by_cases hid : ao.dst = some i
   ·rw [hid] at h3 ⊢
    simpa [put, upd] using h3
   ·have hni : i ∉ hidden L pend done := fun hm => by
     obtain ⟨x, hx, hxd, hxs⟩ := mem_hidden.1 hm
     refine hi (mem_hidden.2 ⟨x, hx, fun hm => ?_, hxs⟩)
     rcases List.mem_cons.1 hm with rfl | hm
     ·exact hid (hdst ▸ hxs)
     ·exact hxd hm
    have : put (mask t (hidden L pend done)) ao.dst v' i = mask t (hidden L pend done) i := by
     cases hda : ao.dst with
     | none => rfl
     | some d =>
      have : i ≠ d := fun e => hid (by rw [hda, e])
      simp [put, upd, this]
    rw [this, mask, if_neg hni]
 refine astep_goes h0 hadv hh ht hd ho hco hstep' ?_
 intro c' w' a' t' h' hadv' hh' _ ht' hd' _ ⟨hle, he⟩
 subst he
 exact next c' w' a' hadv' hh' (ht'.le hle) hd'
theorem RunD.next' {E : Env} {L rest pend k t h} (hst : statOk L rest pend = true) (hne : (rest.any (· < L.length)) = true) (hnd : rest.Nodup) (hdj : pend.all (fun x => !rest.contains x) = true) (hpo : PendOk E.P L t h pend)
  (hr : ∀ y ∈ rest, (L.deps y).all (fun d => !rest.contains d) = true → ∃ o ds, L[y]? = some (o, ds) ∧ AStep E.P t h o (fun t' h' => RunD E L (rest.erase y) (pend.filter fun x => !(clo L L.length ds).contains x) k t' h')) : RunD E L rest pend k t h := by
 intro ops hD c0 w0 h0 c w a done todo
 induction todo generalizing c w a done with
 | nil =>
  intro hadv hh hs hcl hdr hall ht hd b items cs hb hbk hk
  obtain ⟨x, hx, hxl⟩ := List.any_eq_true.1 hne
  exact absurd hx (hdr x (hs x (by rw [hD.size]; simpa using hxl)))
 | cons j todo ih =>
  intro hadv hh hs hcl hdr hall ht hd b items cs hb hbk hk
  have hjs := hs
  obtain ⟨hjd, ⟨o, ho, hdeps⟩, hs'⟩ := hs
  obtain ⟨ao, hL, hco, _⟩ := hD.get ho
  have hjl : j < L.length := (List.getElem?_eq_some_iff.1 hL).1
  by_cases hjp : j ∈ pend
  ·have hjr : j ∉ rest := by simpa using List.all_eq_true.1 hdj j hjp
   refine pend_goes hst hpo hD h0 hadv hh hjs hjp ht hd fun c' w' a' hadv' hh' ht' hd' => ?_
   exact ih c' w' a' (j :: done) hadv' hh' hs' (hcl.cons ho hdeps) (fun i hi => by rcases List.mem_cons.1 hi with rfl | hi; exact hjr; exact hdr i hi) (fun i hi h1 h2 => List.mem_cons_of_mem _ (hall i hi h1 h2)) ht' hd' b items cs hb hbk hk
  ·have hjr : j ∈ rest := Classical.byContradiction fun hn => hjd (hall j hjl hn hjp)
   obtain ⟨o', ds, hL', hstep⟩ := hr j hjr (by
    have : L.deps j = depsOf o := by simp [DL.deps, hL]
    rw [this]
    refine List.all_eq_true.2 fun d hdd => ?_
    simpa using hdr d (mem_deps hdeps d hdd))
   rw [hL] at hL'
   cases hL'
   have hread := read_clear (t := t) hst hL (mem_deps hdeps) (.inr hjr)
   have hstep' : AStep E.P (mask t (hidden L pend done)) h ao (fun t' h' => ∃ t1, RunD E L (rest.erase j) (pend.filter fun x => !(clo L L.length (depsOf o)).contains x) k t1 h' ∧ TRelLe t' (mask t1 (hidden L (pend.filter fun x => !(clo L L.length (depsOf o)).contains x) (j :: done)))) := by
    refine hstep.congr hread fun v h' h1 => ⟨_, h1, fun i => ?_⟩
    have hhid : ∀ i, i ∈ hidden L (pend.filter fun x => !(clo L L.length (depsOf o)).contains x) (j :: done) ↔ i ∈ hidden L pend done := by
     intro i
     simp only [mem_hidden, List.mem_filter]
     refine ⟨fun ⟨x, a, b, c⟩ => ⟨x, a.1, fun hm => b (List.mem_cons_of_mem _ hm), c⟩, fun ⟨x, a, b, c⟩ => ⟨x, ⟨a, ?_⟩, fun hm => ?_, c⟩⟩
     ·simp only [Bool.not_eq_true', List.contains_eq_mem, decide_eq_false_iff_not]
      exact fun hm => b (clo_done hD hcl _ _ (mem_deps hdeps) x hm)
     rcases List.mem_cons.1 hm with rfl | hm
     ·exact hjp a
     ·exact b hm
    by_cases hi : i ∈ hidden L pend done
    ·exact .inr (by rw [mask, if_pos ((hhid i).2 hi)])
    ·refine .inl ?_
     simp only [mask, hhid, if_neg hi]
     cases ao.dst with
     | none => simp only [put, mask, if_neg hi]
     | some d =>
      simp only [put, upd]
      split
      ·rfl
      ·simp only [mask, if_neg hi]
   refine astep_goes h0 hadv hh ht hd ho hco hstep' ?_
   intro c' w' a' t' h' hadv' hh' _ ht' hd' _ ⟨t1, hrun, hle⟩
   refine hrun ops hD c0 w0 h0 c' w' a' (j :: done) todo hadv' hh' hs' (hcl.cons ho hdeps) ?_ ?_ (ht'.le hle) hd' b items cs hb hbk hk
   ·intro i hi hm
    rcases List.mem_cons.1 hi with rfl | hi
    ·exact (List.Nodup.mem_erase_iff hnd).1 hm |>.1 rfl
    ·exact hdr i hi (List.mem_of_mem_erase hm)
   ·intro i hi h1 h2
    by_cases e : i = j
    ·subst e; exact List.mem_cons_self
    ·refine List.mem_cons_of_mem _ ?_
     by_cases hp : i ∈ pend
     ·have : i ∈ clo L L.length (depsOf o) := by
       refine Classical.byContradiction fun hn => h2 (List.mem_filter.2 ⟨hp, by simpa using hn⟩)
      exact clo_done hD hcl _ _ (mem_deps hdeps) i this
     ·exact hall i hi (fun hm => h1 ((List.mem_erase_of_ne e).2 hm)) hp
theorem RunD.fin {E : Env} {L pend k t h} (hst : statOk L [] pend = true) (hpo : PendOk E.P L t h pend) (hr : Run E ⟨k, t, h⟩) : RunD E L [] pend k t h := by
 intro ops hD c0 w0 h0 c w a done todo
 induction todo generalizing c w a done with
 | nil =>
  intro hadv hh hs hcl hdr hall ht hd b items cs hb hbk hk
  refine Goes.step stepR_region_end (hr c0 w0 h0 c w a hadv hh (ht.le fun i => .inl ?_) hd b _ cs hb hbk hk)
  rw [mask, if_neg]
  intro hm
  obtain ⟨x, hx, hxd, hxs⟩ := mem_hidden.1 hm
  refine hxd (hs x ?_)
  rw [hD.size]
  simp only [DL.dst] at hxs
  cases hx' : L[x]? with
  | none => rw [hx'] at hxs; cases hxs
  | some y => exact (List.getElem?_eq_some_iff.1 hx').1
 | cons j todo ih =>
  intro hadv hh hs hcl hdr hall ht hd b items cs hb hbk hk
  have hjs := hs
  obtain ⟨hjd, ⟨o, ho, hdeps⟩, hs'⟩ := hs
  obtain ⟨ao, hL, hco, _⟩ := hD.get ho
  have hjl : j < L.length := (List.getElem?_eq_some_iff.1 hL).1
  have hjp : j ∈ pend := Classical.byContradiction fun hn => hjd (hall j hjl (by simp) hn)
  refine pend_goes hst hpo hD h0 hadv hh hjs hjp ht hd fun c' w' a' hadv' hh' ht' hd' => ?_
  exact ih c' w' a' (j :: done) hadv' hh' hs' (hcl.cons ho hdeps) (fun i _ => by simp) (fun i hi h1 h2 => List.mem_cons_of_mem _ (hall i hi h1 h2)) ht' hd' b items cs hb hbk hk
end Sx
namespace Sx
open Go
set_option linter.unusedSimpArgs false
set_option linter.unusedVariables false
def opQuiet : AOp → Bool
 | .mv _ | .pick .. | .build .. | .load .. | .bin .. | .eq .. | .eqG .. | .un .. | .convI .. | .convS _ | .b2s _ | .fld .. | .fldA .. | .idxA .. | .idxS .. | .idxG .. | .slcS .. | .slc .. | .lenS _ | .lenL _ | .capL _ | .ext .. | .nilck _ | .mm .. | .mkf .. | .mki .. | .mkm1 .. | .mkb .. | .cvU _ | .cvP .. | .usd _ | .mget .. | .lenM _ | .call .. => true
 | _ => false
theorem opQuiet_step {o : AOp} (hq : opQuiet o = true) {t h v h'} (hs : opStep t h o = some (v, h')) : h' = h := by
 cases o <;> simp only [opQuiet, Bool.false_eq_true] at hq <;> simp only [opStep] at hs
 all_goals
  repeat' first
   | (split at hs)
  all_goals first
   | (cases hs; rfl)
   | (simp only [Option.map_eq_some_iff] at hs; obtain ⟨_, _, hs⟩ := hs; cases hs; rfl)
   | (exact (Option.some.inj hs |> Prod.mk.inj |>.2).symm)
   | (cases hs)
def execQ (P : Program) : List AOper → T → List O → (T → List O → Prop) → Prop
 | [], t, h, K => K t h
 | ⟨d, g, o⟩ :: l, t, h, K => match guardB t g with
  | some true => if isCall o = true then ∃ v, CallIs P t h o v ∧ execQ P l (put t d v) h K else (match opStep t h o with
   | some (v, h') => execQ P l (put t d v) h' K
   | none => False)
  | some false => execQ P l (put t d (.tup [])) h K
  | none => False
def quiet1 (L : DL) (n x : Nat) : Bool := match L.dst x with
 | none => true
 | some d => (List.range L.length).all fun y => (if y ≤ x then !(L.rd y).contains d else (L.deps y).contains x || !(L.rd y).contains d) && (y == x || decide (n ≤ y) || L.dst y != some d)
def quietTo (L : DL) (n : Nat) : Bool := decide (n ≤ L.length) && (L.take n).all (fun x => opQuiet x.1.op) && (List.range n).all (quiet1 L n)
def quietOk (L : DL) : Bool := quietTo L L.length && statOk L [] (List.range L.length).reverse
theorem execQ_mono {P : Program} {K K' : T → List O → Prop} (hk : ∀ t h, K t h → K' t h) : ∀ {l : List AOper} {t h}, execQ P l t h K → execQ P l t h K'
 | [], _, _, h => hk _ _ h
 | ⟨d, g, o⟩ :: l, t, h, hq => by
  simp only [execQ] at hq ⊢
  revert hq
  split
  ·split
   ·exact fun ⟨v, h1, h2⟩ => ⟨v, h1, execQ_mono hk h2⟩
   ·split
    ·exact fun hq => execQ_mono hk hq
    ·exact id
  ·exact fun hq => execQ_mono hk hq
  ·exact id
theorem PendOk.put {P : Program} {L : DL} {t h v} {d : Option Nat} : ∀ {pend : List Nat}, PendOk P L t h pend → (∀ e, d = some e → ∀ y ∈ pend, e ∉ L.rd y ∧ L.dst y ≠ some e) → PendOk P L (Sx.put t d v) h pend
 | [], _, _ => trivial
 | y :: ys, hp, hd => by
  refine ⟨?_, hp.2.put fun e he z hz => hd e he z (List.mem_cons_of_mem _ hz)⟩
  have h1 := hp.1
  cases hL : L[y]? with
  | none => trivial
  | some ods =>
   obtain ⟨o, ds⟩ := ods
   rw [hL] at h1
   have hrd : L.rd y = o.rd := by simp [DL.rd, hL]
   have hds : L.dst y = o.dst := by simp [DL.dst, hL]
   have hsame : ∀ i ∈ o.rd, t i = Sx.put t d v i := by
    intro i hi
    cases d with
    | none => rfl
    | some e =>
     have := (hd e rfl y List.mem_cons_self).1
     rw [hrd] at this
     have hne : i ≠ e := fun he => this (he ▸ hi)
     simp [Sx.put, upd, hne]
   have hdst : ∀ e', o.dst = some e' → Sx.put t d v e' = t e' := by
    intro e' he'
    cases d with
    | none => rfl
    | some e =>
     have := (hd e rfl y List.mem_cons_self).2
     rw [hds, he'] at this
     have hne : e' ≠ e := fun he => this (by rw [he])
     simp [Sx.put, upd, hne]
   have hg : guardB t o.g = guardB (Sx.put t d v) o.g := guardB_congr fun j b e => hsame j (by simp only [AOper.rd, e]; simp)
   have hso : ∀ i ∈ o.op.rd, t i = Sx.put t d v i := fun i hi => hsame i (by simp only [AOper.rd]; simp [hi])
   have hop : opStep t h o.op = opStep (Sx.put t d v) h o.op := opStep_congr hso
   simp only at h1 ⊢
   rw [← hg, ← hop]
   rcases h1 with ⟨g1, v1, g2, g3⟩ | ⟨g1, g3⟩
   ·exact .inl ⟨g1, v1, g2.imp id (fun hc => hc.congr hso), fun e he => (hdst e he).trans (g3 e he)⟩
   ·exact .inr ⟨g1, fun e he => (hdst e he).trans (g3 e he)⟩
theorem quiet_go {E : Env} {L : DL} {k} {m : Nat} (hq : quietTo L m = true) {rest : List Nat} (hrest : ∀ i ∈ rest, m ≤ i) (hnd : rest.Nodup) : ∀ (n x : Nat), x + n = m → ∀ {t h}, PendOk E.P L t h (List.range x).reverse →
  execQ E.P (((L.take m).drop x).map (·.1)) t h (fun t h => PendOk E.P L t h (List.range m).reverse → RunD E L rest (List.range m).reverse k t h) → RunD E L (List.range' x n ++ rest) (List.range x).reverse k t h := by
 have hq' : (m ≤ L.length ∧ (L.take m).all (fun x => opQuiet x.1.op) = true) ∧ (List.range m).all (quiet1 L m) = true := by simpa only [quietTo, Bool.and_eq_true, decide_eq_true_eq] using hq
 obtain ⟨⟨hm, hq1⟩, hq2⟩ := hq'
 have hquiet : ∀ x d, x < m → L.dst x = some d → ∀ y, y < L.length → (y ≤ x → d ∉ L.rd y) ∧ (x < y → x ∈ L.deps y ∨ d ∉ L.rd y) ∧ (y ≠ x → y < m → L.dst y ≠ some d) := by
  intro x d hx hd y hy
  have h1 := List.all_eq_true.1 hq2 x (List.mem_range.2 hx)
  simp only [quiet1, hd] at h1
  have h2 := List.all_eq_true.1 h1 y (List.mem_range.2 hy)
  simp only [Bool.and_eq_true, Bool.or_eq_true, beq_iff_eq, decide_eq_true_eq] at h2
  refine ⟨fun h => ?_, fun h => ?_, fun h h' => ?_⟩
  ·have := h2.1; rw [if_pos h] at this; simpa using this
  ·have := h2.1; rw [if_neg (by omega)] at this; simpa using this
  ·rcases h2.2 with (h3 | h3) | h3
   ·exact absurd h3 h
   ·omega
   ·simpa using h3
 intro n
 induction n with
 | zero =>
  intro x hx t h hp hr
  have hx' : x = m := by omega
  subst hx'
  have : ((L.take x).drop x) = [] := by simp
  rw [this] at hr
  simpa [execQ] using hr hp
 | succ n ih =>
  intro x hx t h hp hr
  have hxm : x < m := by omega
  have hxl : x < L.length := by omega
  have hL : L[x]? = some L[x] := List.getElem?_eq_getElem hxl
  have hdrop : (L.take m).drop x = L[x] :: (L.take m).drop (x + 1) := by
   rw [List.drop_eq_getElem_cons (by simp; omega)]
   simp
  rw [hdrop] at hr
  simp only [List.map_cons] at hr
  have hdst : L.dst x = L[x].1.dst := by simp [DL.dst, hL]
  have hqo : opQuiet L[x].1.op = true := List.all_eq_true.1 hq1 _ (List.mem_of_getElem? (i := x) (by simp [hxm]))
  have hrange : (x : Nat) :: (List.range x).reverse = (List.range (x + 1)).reverse := by simp [List.range_succ]
  have herase : (List.range' x (n + 1) ++ rest).erase x = List.range' (x + 1) n ++ rest := by simp [List.range'_succ]
  have main : ∀ v, (guardB t L[x].1.g = some true ∧ (opStep t h L[x].1.op = some (v, h) ∨ CallIs E.P t h L[x].1.op v) ∨ guardB t L[x].1.g = some false ∧ v = .tup []) → execQ E.P (((L.take m).drop (x + 1)).map (·.1)) (put t L[x].1.dst v) h (fun t h => PendOk E.P L t h (List.range m).reverse → RunD E L rest (List.range m).reverse k t h) → RunD E L (List.range' x (n + 1) ++ rest) (List.range x).reverse k t h := by
   intro v hv hrun
   refine RunD.float x v (by simp [List.range'_succ]) (List.nodup_append.2 ⟨List.nodup_range', hnd, fun a ha b hb => by
    have := hrest b hb
    have := List.mem_range'_1.1 ha
    omega⟩) ?_
   rw [herase, hrange, hdst]
   refine ih (x + 1) (by omega) ?_ hrun
   rw [← hrange]
   have hsame : ∀ i ∈ L[x].1.rd, t i = put t L[x].1.dst v i := by
    intro i hi
    cases hd : L[x].1.dst with
    | none => rfl
    | some d =>
     have := (hquiet x d hxm (hdst.trans hd) x hxl).1 (Nat.le_refl _)
     have hrd : L.rd x = L[x].1.rd := by simp [DL.rd, hL]
     rw [hrd] at this
     have hne : i ≠ d := fun he => this (he ▸ hi)
     simp [put, upd, hne]
   have hg : guardB t L[x].1.g = guardB (put t L[x].1.dst v) L[x].1.g := guardB_congr fun j b e => hsame j (by simp only [AOper.rd, e]; simp)
   have hso : ∀ i ∈ L[x].1.op.rd, t i = put t L[x].1.dst v i := fun i hi => hsame i (by simp only [AOper.rd]; simp [hi])
   have hop : opStep t h L[x].1.op = opStep (put t L[x].1.dst v) h L[x].1.op := opStep_congr hso
   refine ⟨?_, hp.put fun e he y hy => ?_⟩
   ·rw [hL]
    simp only
    rw [← hg, ← hop]
    rcases hv with ⟨g1, g2⟩ | ⟨g1, rfl⟩
    ·exact .inl ⟨g1, v, g2.imp id (fun hc => hc.congr hso), fun d hd => by simp [hd, put, upd]⟩
    ·exact .inr ⟨g1, fun d hd => by simp [hd, put, upd]⟩
   ·have hyx : y < x := by simpa using hy
    have := hquiet x e hxm (hdst.trans he) y (by omega)
    exact ⟨this.1 (by omega), this.2.2 (by omega) (by omega)⟩
  revert hr
  generalize L[x].1 = o at hqo main
  obtain ⟨d, g, op⟩ := o
  simp only at hqo main
  simp only [execQ]
  cases hgb : guardB t g with
  | none => intro hr; exact hr.elim
  | some b =>
   cases b with
   | false => intro hr; exact main (.tup []) (.inr ⟨hgb, rfl⟩) hr
   | true =>
    simp only
    split
    ·rintro ⟨v, h1, h2⟩
     exact main v (.inl ⟨hgb, .inr h1⟩) h2
    cases hs : opStep t h op with
    | none => intro hr; exact hr.elim
    | some vh =>
     obtain ⟨v, h'⟩ := vh
     have := opQuiet_step hqo hs
     subst this
     intro hr
     exact main v (.inl ⟨hgb, .inl hs⟩) hr
theorem Run.quiet {E : Env} (hm : E.P.follows .mixedOrders = true) {L : DL} {t h k} (hq : quietOk L = true) (hr : execQ E.P (L.map (·.1)) t h (fun t h => Run E ⟨k, t, h⟩)) : Run E ⟨.code (.drawn L) :: k, t, h⟩ := by
 have hq' : quietTo L L.length = true ∧ statOk L [] (List.range L.length).reverse = true := by simpa only [quietOk, Bool.and_eq_true] using hq
 refine Run.drawn hm ?_
 have := quiet_go (E := E) (L := L) (k := k) (rest := []) hq'.1 (by simp) List.nodup_nil L.length 0 (by simp) (t := t) (h := h) trivial ?_
 ·simpa [List.range_eq_range'] using this
 ·simp only [List.take_length, List.drop_zero]
  exact execQ_mono (fun t h hr hp => RunD.fin hq'.2 hp hr) hr
theorem Run.quietTo {E : Env} (hm : E.P.follows .mixedOrders = true) {L : DL} {t h k} (n : Nat) (hq : Sx.quietTo L n = true)
  (hr : execQ E.P ((L.take n).map (·.1)) t h (fun t h => PendOk E.P L t h (List.range n).reverse → RunD E L (List.range' n (L.length - n)) (List.range n).reverse k t h)) : Run E ⟨.code (.drawn L) :: k, t, h⟩ := by
 refine Run.drawn hm ?_
 have hn : n ≤ L.length := by
  simp only [Sx.quietTo, Bool.and_eq_true, decide_eq_true_eq] at hq
  exact hq.1.1
 have := quiet_go (E := E) (L := L) (k := k) (rest := List.range' n (L.length - n)) hq (fun i hi => (List.mem_range'_1.1 hi).1) List.nodup_range' n 0 (by simp) (t := t) (h := h) trivial (by simpa using hr)
 have e : List.range' 0 n ++ List.range' n (L.length - n) = List.range L.length := by
  rw [List.range_eq_range']
  have := List.range'_append_1 (s := 0) (m := n) (n := L.length - n)
  rw [Nat.zero_add] at this
  rw [this]; congr 1; omega
 rw [e] at this
 simpa using this
theorem RunD.chain {E : Env} {L y ys pend k t h} (hc : (statOk L (y :: ys) pend && decide (y < L.length) && decide (y :: ys).Nodup && pend.all (fun x => !(y :: ys).contains x) && ys.all (fun z => (L.deps z).contains y)) = true) (hpo : PendOk E.P L t h pend)
  {o ds} (ho : L[y]? = some (o, ds)) (hr : AStep E.P t h o (fun t' h' => RunD E L ys (pend.filter fun x => !(clo L L.length ds).contains x) k t' h')) : RunD E L (y :: ys) pend k t h := by
 simp only [Bool.and_eq_true, decide_eq_true_eq] at hc
 obtain ⟨⟨⟨⟨h1, h2⟩, h3⟩, h4⟩, h5⟩ := hc
 refine RunD.next' h1 (by simp [h2]) h3 h4 hpo fun z hz hdz => ?_
 rcases List.mem_cons.1 hz with rfl | hz
 ·refine ⟨o, ds, ho, ?_⟩
  simpa [List.erase_cons_head] using hr
 ·have h6 : y ∈ L.deps z := by simpa using List.all_eq_true.1 h5 z hz
  have := List.all_eq_true.1 hdz y h6
  simp at this
end Sx
