/-
  Sx: symbolic execution over abstract heaps: parts L, M, Mb, Mc, Md, N.
-/
import Derived.Test.YthphkcpbglhabaaGreatDoorSx3
import Derived.Laws.BytesString
import Derived.Laws.Externs
import Derived.KernelRfl
import Derived.Lib.Builder
import Derived.Lib.UnsafeStr
import Derived.MapKept

/-
  Sx, part L: more operations that change nothing; all operations together.
-/
namespace Sx
open Go
set_option linter.unusedSimpArgs false
set_option linter.unusedVariables false

theorem run_sizeOf' {P : Program} {w : World} {t n b} (h : cSize P t = some (n, b)) : (Go.sizeOf t).run P w = .ok n w := by
  obtain ⟨d, i, _, hi, his⟩ := cSize_size h
  simp [Go.sizeOf, typeInfo, hi, his]

theorem sound_idxA {P : Program} {N c t a w h} (hh : HRel c w h) (ht : TRel N c t a) {ty : TypeId} {x i : Operand} {x' i' : Opd} {arr sz} (hc : cOp P N (.indexAddr ty x i) = some (.idxA x' i' arr sz)) {v h'}
    (hs : opStep t h (.idxA x' i' arr sz) = some (v, h')) : Ok P c w h (Instr.indexAt ty (a.eval x) (a.eval i)) v h' := by
  simp only [cOp] at hc
  split at hc
  · rename_i x'' i'' len e hx hi hu
    split at hc
    case h_2 => cases hc
    case h_1 n b hk =>
      split at hc <;> cases hc
      rename_i hlen
      have r1 := opd_rel ht hx
      have r2 := opd_rel ht hi
      simp only [opStep] at hs
      generalize x'.ev t = xv at *
      generalize i'.ev t = iv at *
      generalize a.eval x = xc at *
      generalize a.eval i = ic at *
      split at hs
      case h_2 => cases hs
      case h_1 k n =>
        rw [r2.int_inv]
        split at hs
        case isFalse => cases hs
        case isTrue hb =>
          have hb' : 0 ≤ n ∧ n < (len : Int) := hb
          have htiny : ¬ len ≤ 1 := by omega
          split at hs <;> cases hs
          · obtain ⟨p, hp, hn, rfl⟩ := r1.ptr_inv
            refine Ok.of_same hh (cv := .pointer (some ⟨p.block, p.base + _ + n.toNat * sz, none⟩)) ?_ (by rw [Nat.add_assoc]; exact .ptr _ _ _ p hp hn)
            simp [Instr.indexAt, Sem.run_bind, asIntOf, run_underlying hu, Instr.sureAddr, hb', htiny, run_sizeOf' hk, Addr.add_mid]
          · obtain ⟨p, hp, hn, rfl⟩ := r1.eptr_inv
            refine Ok.of_same hh (cv := .pointer (some ⟨p.block, p.base + _ + _ + n.toNat * sz, none⟩)) ?_ (by rw [Nat.add_assoc]; exact .eptr _ _ _ _ _ p hp hn)
            simp [Instr.indexAt, Sem.run_bind, asIntOf, run_underlying hu, Instr.sureAddr, hb', htiny, run_sizeOf' hk, Addr.add_mid]
          · obtain ⟨b, o, cs, g, h1, h2, h3, rfl⟩ := r1.rptr_inv
            refine Ok.of_same hh (cv := .pointer (some ⟨b, o + _ + n.toNat * sz, none⟩)) ?_ (by rw [Nat.add_assoc]; exact .rptr _ _ _ b o cs g h1 h2 h3)
            simp [Instr.indexAt, Sem.run_bind, asIntOf, run_underlying hu, Instr.sureAddr, hb', htiny, run_sizeOf' hk, Addr.add_mid]
  · rename_i x'' i'' e hx hi hu
    split at hc
    case h_2 => cases hc
    case h_1 n b hk =>
      cases hc
      have r1 := opd_rel ht hx
      have r2 := opd_rel ht hi
      simp only [opStep] at hs
      generalize x'.ev t = xv at *
      generalize i'.ev t = iv at *
      generalize a.eval x = xc at *
      generalize a.eval i = ic at *
      split at hs
      case h_2 => cases hs
      case h_1 k n =>
        rw [r2.int_inv]
        split at hs
        · rename_i es s
          split at hs
          case isFalse => cases hs
          case isTrue hb =>
            obtain ⟨rfl, h0⟩ := hb
            split at hs <;> cases hs
            rename_i cs hcs
            obtain ⟨hlt, rfl⟩ := List.getElem?_eq_some_iff.1 hcs
            rcases r1.vs_inv with ⟨b, o, cap, ccs, f, hb, hl, hsz, hones, hcc, hvv, rfl⟩ | ⟨a, rfl, _⟩
            · have hb' : 0 ≤ n ∧ n < (es.length : Int) := by omega
              refine Ok.of_same hh (cv := .pointer (some ⟨b, o + n.toNat * s + 0, none⟩)) ?_ (.rptr _ _ _ b (o + n.toNat * s) ccs (f n.toNat) hb (fun j hj => hcc _ _ hlt (by rw [← hsz _ hlt]; exact hj)) (fun j hj => hvv _ hlt j hj))
              simp [Instr.indexAt, Sem.run_bind, asIntOf, run_underlying hu, hb', run_sizeOf' hk, Addr.add_mid]
            · simp at hlt
        · rename_i id off len s k'
          split at hs
          case isFalse => cases hs
          case isTrue hb =>
            obtain ⟨rfl, hb'⟩ := hb
            cases hs
            rcases r1.sl_inv with ⟨p, cap, o, hp, hn, hcap, ho, hto, hk', rfl⟩ | ⟨p, a, hp, hn, rfl, rfl, rfl, rfl⟩
            · have ho' : o = p.base + off * s := by rcases ho with h | h; exact h; omega
              refine Ok.of_same hh (cv := .pointer (some ⟨p.block, o + n.toNat * s, none⟩)) ?_ ?_
              · simp [Instr.indexAt, Sem.run_bind, asIntOf, run_underlying hu, hb', run_sizeOf' hk, Addr.add_mid]
              · have : o + n.toNat * s = p.base + (off + n.toNat) * s + 0 := by rw [ho', Nat.add_mul]; omega
                rw [this]; exact .eptr _ _ _ _ _ p hp hn
            · omega
        · cases hs
  · cases hc

theorem sound_idxG {P : Program} {N c t a w h} (hh : HRel c w h) (ht : TRel N c t a) {ty : TypeId} {x i : Operand} {x' i' : Opd} {len sz agg} (hc : cOp P N (.index ty x i) = some (.idxG x' i' len sz agg)) {v h'}
    (hs : opStep t h (.idxG x' i' len sz agg) = some (v, h')) : Ok P c w h (Instr.index ty (a.eval x) (a.eval i)) v h' := by
  simp only [cOp] at hc
  split at hc
  · rename_i x'' i'' len e hx hi hu
    split at hc
    case h_2 => cases hc
    case h_1 n b hk =>
      cases hc
      have r1 := opd_rel ht hx
      have r2 := opd_rel ht hi
      simp only [opStep] at hs
      generalize x'.ev t = xv at *
      generalize i'.ev t = iv at *
      generalize a.eval x = xc at *
      generalize a.eval i = ic at *
      split at hs
      case h_2 => cases hs
      case h_1 k m cs =>
        rw [r2.int_inv]
        split at hs
        case isFalse => cases hs
        case isTrue hb =>
          split at hs <;> cases hs
          rename_i hr
          obtain ⟨ccs, rfl, hrr⟩ := r1.agg_inv
          obtain ⟨cv, g1, g2⟩ := readAt_agg (P := P) (w := w) hrr hk hr
          exact Ok.of_same hh (by simp [Instr.index, Sem.run_bind, asIntOf, run_underlying hu, hb, run_sizeOf' hk, g1]) g2
  · cases hc
  · cases hc

theorem sound_idxS {P : Program} {N c t a w h} (hh : HRel c w h) (ht : TRel N c t a) {ty : TypeId} {x i : Operand} {x' i' : Opd} (hc : cOp P N (.index ty x i) = some (.idxS x' i')) {v h'}
    (hs : opStep t h (.idxS x' i') = some (v, h')) : Ok P c w h (Instr.index ty (a.eval x) (a.eval i)) v h' := by
  simp only [cOp] at hc
  split at hc
  · split at hc <;> cases hc
  · rename_i x'' i'' hx hi hu
    cases hc
    have r1 := opd_rel ht hx
    have r2 := opd_rel ht hi
    simp only [opStep] at hs
    generalize x'.ev t = xv at *
    generalize i'.ev t = iv at *
    generalize a.eval x = xc at *
    generalize a.eval i = ic at *
    split at hs
    case h_2 => cases hs
    case h_1 k m l =>
      rw [r2.int_inv]
      split at hs
      case isFalse => cases hs
      case isTrue hb =>
        split at hs <;> cases hs
        rename_i u hl
        rw [r1.str_inv]
        refine Ok.of_same hh (cv := .int .u8 u.toNat) ?_ (.int ..)
        have hget : (ByteArray.mk l.toArray)[m.toNat]? = some u := by
          obtain ⟨hlt, rfl⟩ := List.getElem?_eq_some_iff.1 hl
          have hsz : m.toNat < (ByteArray.mk l.toArray).size := by simpa [ByteArray.size] using hlt
          rw [getElem?_pos (ByteArray.mk l.toArray) m.toNat hsz]
          rfl
        simp [Instr.index, Sem.run_bind, asIntOf, run_underlying hu, hb, hget]
  · cases hc

theorem run_sliceBound {P : Program} {w : World} {k : IntKind} {n : Int} {y : Nat} (code) (h : 0 ≤ n ∧ n ≤ y) : (Instr.sliceBound (.int k n) y code).run P w = .ok n.toNat w := by
  simp [Instr.sliceBound, Sem.run_bind, asIntOf, h]

theorem run_boundsC {P : Program} {N c t a} {w : World} (ht : TRel N c t a) (isSlice : Bool) {len cap top : Nat} (hcap : top ≤ cap) {lo hi : Option Operand} (hlt : hi = none → len ≤ top) {lo' hi' : Option Opd} (hlo : cOpt N lo = some lo') (hhi : cOpt N hi = some hi') {l r : Nat}
    (hb : boundsC t top len lo' hi' = some (l, r)) : (Instr.sliceBounds isSlice len cap (lo.map a.eval) (hi.map a.eval) none).run P w = .ok (l, r, cap) w ∧ l ≤ r ∧ r ≤ top ∧
      ∀ (ik : IntKind) (m : Int), 0 ≤ m → m.toNat ≤ cap → top ≤ m.toNat → hi.isSome = true → (Instr.sliceBounds isSlice len cap (lo.map a.eval) (hi.map a.eval) (some (.int ik m))).run P w = .ok (l, r, m.toNat) w := by
  unfold boundsC at hb
  split at hb
  case h_1 => cases hb
  case h_2 r' hr =>
    split at hb
    case h_1 => cases hb
    case h_2 l' hl =>
      cases hb
      have h1 : (hi = none → r = len) ∧ (∀ x, hi = some x → ∀ cap', top ≤ cap' → ∀ code, (Instr.sliceBound (a.eval x) cap' code).run P w = .ok r w) ∧ r ≤ top := by
        cases hi with
        | none => simp [cOpt] at hhi; subst hhi; simp [bound1] at hr; subst hr; exact ⟨fun _ => rfl, (fun x h => by cases h), hlt rfl⟩
        | some x =>
          simp only [cOpt] at hhi
          cases hx : cOpd N x with
          | none => simp [hx] at hhi
          | some x' =>
            simp [hx] at hhi; subst hhi
            simp only [bound1] at hr
            have r1 := opd_rel ht hx
            generalize x'.ev t = xv at *
            split at hr
            case h_2 => cases hr
            case h_1 k n =>
              split at hr <;> cases hr
              refine ⟨(fun h => by cases h), fun y hy cap' hc' code => ?_, by omega⟩
              cases hy
              rw [r1.int_inv]; exact run_sliceBound _ (by omega)
      have h2 : (lo = none → l = 0) ∧ (∀ x, lo = some x → ∀ code, (Instr.sliceBound (a.eval x) r code).run P w = .ok l w) ∧ l ≤ r := by
        cases lo with
        | none => simp [cOpt] at hlo; subst hlo; simp [bound1] at hl; subst hl; exact ⟨fun _ => rfl, (fun x h => by cases h), Nat.zero_le _⟩
        | some x =>
          simp only [cOpt] at hlo
          cases hx : cOpd N x with
          | none => simp [hx] at hlo
          | some x' =>
            simp [hx] at hlo; subst hlo
            simp only [bound1] at hl
            have r1 := opd_rel ht hx
            generalize x'.ev t = xv at *
            split at hl
            case h_2 => cases hl
            case h_1 k n =>
              split at hl <;> cases hl
              refine ⟨(fun h => by cases h), fun y hy code => ?_, by omega⟩
              cases hy
              rw [r1.int_inv]; exact run_sliceBound _ (by omega)
      obtain ⟨a1, a2, a3⟩ := h1
      obtain ⟨b1, b2, b3⟩ := h2
      refine ⟨?_, b3, a3, fun ik m hm0 hmc hmt hs => ?_⟩
      · cases hi with
        | none =>
          have e1 := a1 rfl
          subst e1
          cases lo with
          | none => have e2 := b1 rfl; subst e2; simp [Instr.sliceBounds, Sem.run_bind]
          | some y => simp [Instr.sliceBounds, Sem.run_bind, b2 y rfl]
        | some x =>
          cases lo with
          | none => have e2 := b1 rfl; subst e2; simp [Instr.sliceBounds, Sem.run_bind, a2 x rfl cap hcap]
          | some y => simp [Instr.sliceBounds, Sem.run_bind, a2 x rfl cap hcap, b2 y rfl]
      · have hsb : ∀ code, (Instr.sliceBound (.int ik m) cap code).run P w = .ok m.toNat w := fun code => run_sliceBound _ (by omega)
        cases hi with
        | none => cases hs
        | some x =>
          cases lo with
          | none => have e2 := b1 rfl; subst e2; simp [Instr.sliceBounds, Sem.run_bind, hsb, a2 x rfl m.toNat hmt]
          | some y => simp [Instr.sliceBounds, Sem.run_bind, hsb, a2 x rfl m.toNat hmt, b2 y rfl]

theorem run_bounds {P : Program} {N c t a} {w : World} (ht : TRel N c t a) (isSlice : Bool) {len cap : Nat} (hcap : len ≤ cap) {lo hi : Option Operand} {lo' hi' : Option Opd} (hlo : cOpt N lo = some lo') (hhi : cOpt N hi = some hi') {l r : Nat}
    (hb : bounds t len lo' hi' = some (l, r)) : (Instr.sliceBounds isSlice len cap (lo.map a.eval) (hi.map a.eval) none).run P w = .ok (l, r, cap) w ∧ l ≤ r ∧ r ≤ len := by
  have := run_boundsC (P := P) (w := w) ht isSlice hcap (fun _ => Nat.le_refl len) hlo hhi (show boundsC t len len lo' hi' = some (l, r) from hb)
  exact ⟨this.1, this.2.1, this.2.2.1⟩

theorem str_extract (l : List UInt8) (a b : Nat) : (ByteArray.mk l.toArray).extract a b = ⟨((l.take b).drop a).toArray⟩ := by
  apply ByteArray.ext
  simp [ByteArray.data_extract, List.drop_take]

theorem sound_slcS {P : Program} {N c t a w h} (hh : HRel c w h) (ht : TRel N c t a) {ty : TypeId} (hu : P.underlying ty = some .string) {x : Operand} {x' : Opd} (hx : cOpd N x = some x') {lo hi : Option Operand} {lo' hi' : Option Opd} (hlo : cOpt N lo = some lo') (hhi : cOpt N hi = some hi') {v h'}
    (hs : opStep t h (.slcS x' lo' hi') = some (v, h')) : Ok P c w h (Instr.sliceAt ty (a.eval x) (lo.map a.eval) (hi.map a.eval) none) v h' := by
  have r1 := opd_rel ht hx
  simp only [opStep] at hs
  generalize x'.ev t = xv at *
  generalize a.eval x = xc at *
  split at hs
  case h_2 => cases hs
  case h_1 l =>
    split at hs <;> cases hs
    rename_i p q hb
    rw [r1.str_inv]
    obtain ⟨g1, g2, g3⟩ := run_bounds (P := P) (w := w) ht false (Nat.le_refl l.length) hlo hhi hb
    refine Ok.of_same hh (cv := .string ⟨((l.take q).drop p).toArray⟩) ?_ (.str ..)
    have hsz : (ByteArray.mk l.toArray).size = l.length := by simp [ByteArray.size]
    simp [Instr.sliceAt, Instr.slice, Sem.run_bind, run_underlying hu, hsz, g1, str_extract]

theorem sound_slc {P : Program} {N c t a w h} (hh : HRel c w h) (ht : TRel N c t a) {ty e : TypeId} (hu : P.underlying ty = some (.slice e)) {n b} (hk : cSize P e = some (n, b)) {x : Operand} {x' : Opd} (hx : cOpd N x = some x') {lo hi mx : Option Operand} {lo' hi' mx' : Option Opd} (hlo : cOpt N lo = some lo') (hhi : cOpt N hi = some hi') (hmx : cOpt N mx = some mx') {v h'}
    (hs : opStep t h (.slc x' lo' hi' mx' n) = some (v, h')) : Ok P c w h (Instr.sliceAt ty (a.eval x) (lo.map a.eval) (hi.map a.eval) (mx.map a.eval)) v h' := by
  have r1 := opd_rel ht hx
  have hdef : ∀ (l m p : Option Value), Instr.sliceAt ty (a.eval x) l m p = (do match ← underlying ty with
    | .array n elem =>
      let a' ← Instr.sureAddr (a.eval x)
      let (l, h, m) ← Instr.sliceBounds false n n l m p
      let size ← Go.sizeOf elem
      pure (.slice (some (if m = l then a' else a'.add (l * size))) (h - l) (m - l))
    | _ => Instr.slice ty (a.eval x) l m p) := fun _ _ _ => rfl
  have run : ∀ (l m p : Option Value), (Instr.sliceAt ty (a.eval x) l m p).run P w = (Instr.slice ty (a.eval x) l m p).run P w := by
    intro l m p
    rw [hdef]
    simp [Sem.run_bind, run_underlying hu]
  simp only [opStep] at hs
  generalize x'.ev t = xv at *
  generalize a.eval x = xc at *
  split at hs
  · rename_i m'
    cases mx with
    | none => simp [cOpt] at hmx
    | some m =>
      have hmm : cOpd N m = some m' := by
        simp only [cOpt] at hmx; cases hy : cOpd N m with
        | none => simp [hy] at hmx
        | some y => simp [hy] at hmx; rw [hmx]
      have r2 := opd_rel ht hmm
      split at hs
      case h_2 => cases hs
      case h_1 id off len s k kk q hev =>
        rw [hev] at r2
        split at hs
        case isFalse => cases hs
        case isTrue hc =>
          obtain ⟨rfl, hq0, hql, his⟩ := hc
          split at hs <;> cases hs
          rename_i l r hb
          have hsm : hi.isSome = true := by
            cases hi with
            | none => simp [cOpt] at hhi; subst hhi; cases his
            | some _ => rfl
          have hr2 := r2.int_inv
          rcases r1.sl_inv with ⟨p, cap, o, hp, hn, hcap, ho, hto, hk', rfl⟩ | ⟨p, ad, hp, hn, rfl, rfl, rfl, rfl⟩
          · obtain ⟨-, g2, g3, g4⟩ := run_boundsC (P := P) (w := w) ht true (cap := cap) (by omega) (fun h => by subst h; cases hsm) hlo hhi hb
            have g5 := g4 kk q hq0 (by omega) (Nat.le_refl _) hsm
            refine Ok.of_same hh (cv := .slice (if q.toNat = l then some ⟨p.block, o, none⟩ else (some ⟨p.block, o, none⟩ : Option Addr).map (·.add (l * s))) (r - l) (q.toNat - l)) ?_ ?_
            · rw [run]; simp [Instr.slice, Sem.run_bind, run_underlying hu, hr2, g5, run_sizeOf' hk]
            · by_cases hcl : q.toNat = l
              · rw [if_pos hcl]
                exact .sl _ _ _ _ _ _ o _ p hp hn (by omega) (.inr (by omega)) (fun h => by omega) (fun x hx => by cases hx)
              · rw [if_neg hcl]
                simp only [Option.map_some, Addr.add_mid]
                have ho' : o = p.base + off * s := by rcases ho with h | h; exact h; omega
                refine .sl _ _ _ _ _ _ (o + l * s) _ p hp hn (by omega) (.inl (by rw [ho', Nat.add_mul]; omega)) (fun _ => ?_) (fun x hx => by cases hx)
                have := hto (by omega)
                have e2 : q.toNat * s = l * s + (q.toNat - l) * s := by rw [← Nat.add_mul]; congr 1; omega
                have e3 : q.toNat * s ≤ cap * s := Nat.mul_le_mul_right s (by omega)
                rw [Nat.add_mul]; omega
          · have hq : q = 0 := by omega
            subst hq
            obtain ⟨-, g2, g3, g4⟩ := run_boundsC (P := P) (w := w) ht true (cap := 0) (by simp) (fun h => by subst h; cases hsm) hlo hhi hb
            have g5 := g4 kk 0 (by omega) (by simp) (by simp) hsm
            simp at g3
            have hl0 : l = 0 := by omega
            have hr0 : r = 0 := by omega
            subst hl0; subst hr0
            refine Ok.of_same hh (cv := .slice ad 0 0) ?_ ?_
            · rw [run]; simp [Instr.slice, Sem.run_bind, run_underlying hu, hr2, g5, run_sizeOf' hk]
            · simp; exact .slnil _ _ _ p _ hp hn
  · have hmx' : mx = none := by
      cases mx with
      | none => rfl
      | some y => simp only [cOpt] at hmx; cases hy : cOpd N y <;> simp [hy] at hmx
    subst hmx'
    have slc : ∀ (ad : Option Addr) (len cap l r : Nat), len ≤ cap → bounds t len lo' hi' = some (l, r) → l ≤ r → r ≤ len → (Instr.sliceAt ty (.slice ad len cap) (lo.map a.eval) (hi.map a.eval) none).run P w = .ok (.slice (if cap = l then ad else ad.map (·.add (l * n))) (r - l) (cap - l)) w := by
      intro ad len cap l r hc hb _ _
      have g1 := (run_bounds (P := P) (w := w) ht true hc hlo hhi hb).1
      simp [Instr.sliceAt, Instr.slice, Sem.run_bind, run_underlying hu, g1, run_sizeOf' hk]
    have hbd : ∀ len l r, bounds t len lo' hi' = some (l, r) → l ≤ r ∧ r ≤ len := fun len l r hb => (run_bounds (P := P) (w := w) ht true (Nat.le_refl len) hlo hhi hb).2
    split at hs
    · rename_i es s
      split at hs
      case isFalse => cases hs
      case isTrue e0 =>
        subst e0
        split at hs <;> cases hs
        rename_i l r hb
        obtain ⟨q1, q2⟩ := hbd _ _ _ hb
        rcases r1.vs_inv with ⟨bl, o, cap, cs, f, hb', hl, hsz, hones, hc, hvv, rfl⟩ | ⟨ad, rfl, rfl⟩
        · refine Ok.of_same hh (slc _ _ _ _ _ hl hb q1 q2) ?_
          have hlen : ((es.take r).drop l).length = r - l := by simp; omega
          rw [← hlen]
          by_cases hcl : cap = l
          · have : (es.take r).drop l = [] := List.eq_nil_of_length_eq_zero (by omega)
            rw [this, if_pos hcl]
            have : cap - l = 0 := by omega
            rw [this]
            exact .vsnil ..
          · rw [if_neg hcl]
            simp only [Option.map_some, Addr.add_mid]
            refine .vs _ _ _ bl (o + l * s) (cap - l) cs (fun i j => f (l + i) j) hb' (by omega) (fun i hi => ?_) (fun x hx => hones x (List.mem_of_mem_take (List.mem_of_mem_drop hx))) (fun i j hi hj => ?_) (fun i hi j hj => ?_)
            · simp; exact hsz _ _
            · rw [← hc (l + i) j (by omega) hj]; congr 1; rw [Nat.add_mul]; omega
            · simp only [List.getElem_drop, List.getElem_take] at hj ⊢
              exact hvv (l + i) (by omega) j hj
        · simp at q2
          have hl0 : l = 0 := by omega
          have hr0 : r = 0 := by omega
          subst hl0; subst hr0
          refine Ok.of_same hh (slc _ _ _ _ _ (Nat.le_refl _) hb (Nat.le_refl _) (Nat.le_refl _)) ?_
          simp
          exact .vsnil ..
    · rename_i id off len s k
      split at hs
      case isFalse => cases hs
      case isTrue e0 =>
        subst e0
        split at hs <;> cases hs
        rename_i l r hb
        rcases r1.sl_inv with ⟨p, cap, o, hp, hn, hcap, ho, hto, hk', rfl⟩ | ⟨p, ad, hp, hn, rfl, rfl, rfl, rfl⟩
        · have htop : len ≤ k.getD len ∧ k.getD len ≤ cap := by
            cases k with
            | none => exact ⟨Nat.le_refl _, hcap⟩
            | some y => have := hk' y rfl; subst this; exact ⟨hcap, Nat.le_refl _⟩
          obtain ⟨g1, q1, q2, -⟩ := run_boundsC (P := P) (w := w) ht true htop.2 (fun _ => htop.1) hlo hhi hb
          refine Ok.of_same hh (cv := .slice (if cap = l then some ⟨p.block, o, none⟩ else (some ⟨p.block, o, none⟩ : Option Addr).map (·.add (l * s))) (r - l) (cap - l)) (by simp [Instr.sliceAt, Instr.slice, Sem.run_bind, run_underlying hu, g1, run_sizeOf' hk]) ?_
          have hkk : ∀ x, k.map (· - l) = some x → x = cap - l := by
            intro x hx
            cases k with
            | none => simp at hx
            | some y => have := hk' y rfl; simp at hx; omega
          by_cases hcl : cap = l
          · rw [if_pos hcl]
            exact .sl _ _ _ _ _ _ o _ p hp hn (by omega) (.inr (by omega)) (fun h => by omega) hkk
          · rw [if_neg hcl]
            simp only [Option.map_some, Addr.add_mid]
            have ho' : o = p.base + off * s := by rcases ho with h | h; exact h; omega
            refine .sl _ _ _ _ _ _ (o + l * s) _ p hp hn (by omega) (.inl (by rw [ho', Nat.add_mul]; omega)) (fun _ => ?_) hkk
            have := hto (by omega)
            have e2 : cap * s = l * s + (cap - l) * s := by rw [← Nat.add_mul]; congr 1; omega
            rw [Nat.add_mul]; omega
        · have hb' : bounds t 0 lo' hi' = some (l, r) := hb
          obtain ⟨q1, q2⟩ := hbd _ _ _ hb'
          have hl0 : l = 0 := by omega
          have hr0 : r = 0 := by omega
          subst hl0; subst hr0
          refine Ok.of_same hh (slc _ _ _ _ _ (Nat.le_refl _) hb' (Nat.le_refl _) (Nat.le_refl _)) ?_
          simp
          exact .slnil _ _ _ p _ hp hn
    · split at hs <;> cases hs
      rename_i lr hb
      obtain ⟨l, r⟩ := lr
      obtain ⟨q1, q2⟩ := hbd _ _ _ hb
      have hl0 : l = 0 := by omega
      have hr0 : r = 0 := by omega
      subst hl0; subst hr0
      rw [r1.nils_inv] at *
      refine Ok.of_same hh (slc _ _ _ _ _ (Nat.le_refl _) hb (Nat.le_refl _) (Nat.le_refl _)) ?_
      simp
      exact .nils ..
    · cases hs

end Sx

/-
  Sx, part M: the last operations; all operations together.
-/
namespace Sx
open Go
set_option linter.unusedSimpArgs false
set_option linter.unusedVariables false

theorem foldl_push : ∀ (ns : List Int) (r : ByteArray), ns.foldl (fun r n => r.push (UInt8.ofNat n.toNat)) r = ⟨r.data ++ (ns.map fun n => UInt8.ofNat n.toNat).toArray⟩
  | [], r => by simp
  | n :: ns, r => by
    simp only [List.foldl_cons]
    rw [foldl_push ns]
    simp [ByteArray.push]

theorem bytesOf_spec : ∀ {es : List (List V)} {l : List UInt8}, bytesOf es = some l → ∃ ns : List Int, es = ns.map (fun n => [.int .u8 n]) ∧ l = ns.map fun n => UInt8.ofNat n.toNat
  | [], l, h => by simp [bytesOf] at h; subst h; exact ⟨[], rfl, rfl⟩
  | [.int .u8 n] :: r, l, h => by
    simp only [bytesOf] at h
    cases hr : bytesOf r with
    | none => simp [hr] at h
    | some l' =>
      simp [hr] at h; subst h
      obtain ⟨ns, rfl, rfl⟩ := bytesOf_spec hr
      exact ⟨n :: ns, rfl, rfl⟩
  | [] :: r, l, h => by simp [bytesOf] at h
  | (_ :: _ :: _) :: r, l, h => by simp [bytesOf] at h
  | [.int .i8 _] :: r, l, h | [.int .i16 _] :: r, l, h | [.int .i32 _] :: r, l, h | [.int .i64 _] :: r, l, h | [.int .u16 _] :: r, l, h | [.int .u32 _] :: r, l, h | [.int .u64 _] :: r, l, h => by simp [bytesOf] at h
  | [.bool _] :: r, l, h | [.str _] :: r, l, h | [.nilp] :: r, l, h | [.nils] :: r, l, h | [.nilf] :: r, l, h | [.nilm] :: r, l, h | [.zs] :: r, l, h | [.ptr ..] :: r, l, h | [.eptr ..] :: r, l, h | [.rptr ..] :: r, l, h
  | [.sl ..] :: r, l, h | [.vs ..] :: r, l, h | [.mp _] :: r, l, h | [.fn ..] :: r, l, h | [.agg _] :: r, l, h | [.tup _] :: r, l, h | [.any] :: r, l, h | [.bad] :: r, l, h => by simp [bytesOf] at h

theorem sound_b2s {P : Program} {c w h} (hh : HRel c w h) {s d e : TypeId} (hs : P.underlying s = some (.slice e)) (he : P.underlying e = some (.int .u8)) (hd : P.underlying d = some .string) {xv : V} {xc : Value} (hx : VRel c.ro c.m xv xc)
    {es l} (h1 : elemsOf h 1 xv = some es) (h2 : bytesOf es = some l) : Ok P c w h (convert s d xc) (.str l) h := by
  obtain ⟨news, a, cap, n1, n2, rfl, n3, n4⟩ := elemsOf_flat hh hx h1
  obtain ⟨ns, rfl, rfl⟩ := bytesOf_spec h2
  have hnews : news = ns.map (Value.int .u8) := by
    refine List.ext_getElem (by simpa using n1) fun i a b => ?_
    have hi : i < ns.length := by simpa using b
    obtain ⟨x, hx, hv⟩ := n2.rel i (by simpa using hi) 0 (by simp)
    simp only [Nat.mul_one, Nat.add_zero, List.getElem?_eq_getElem a] at hx
    cases hx
    simp only [List.getElem_map, List.getElem_cons_zero] at hv ⊢
    exact hv.int_inv
  refine Ok.of_same hh (cv := .string ⟨(ns.map fun n => UInt8.ofNat n.toNat).toArray⟩) ?_ (.str ..)
  rw [run_convert_bytes_string w s d e a _ cap hs he hd]
  simp only [List.length_map] at n4 ⊢
  cases a with
  | none =>
    rcases n4 with h0 | ⟨b, o, hb, _⟩
    · have : ns = [] := List.eq_nil_of_length_eq_zero h0
      subst this; rfl
    · cases hb
  | some ad =>
    have hload : (loadCells ad ns.length).run P w = .ok (ns.map (Value.int .u8)).toArray w := by
      have := run_loadCells_list (P := P) w ad news (fun j v hj => by
        rcases n4 with h0 | ⟨b, o, hb, hc⟩
        · rw [hnews] at hj
          have : ns = [] := List.eq_nil_of_length_eq_zero h0
          subst this; simp at hj
        · cases hb; rw [Addr.add_mid]; exact hc j v hj)
      rw [hnews] at this
      simpa using this
    rw [run_bytesToString w ad ns.length cap ns hload, foldl_push]
    simp [ByteArray.empty, ByteArray.emptyWithCapacity]
    try rfl

theorem chunk_length (sz : Nat) : ∀ (n : Nat) (l : List V), (chunk sz n l).length = n
  | 0, _ => rfl
  | n + 1, l => by simp [chunk, chunk_length sz n]

theorem chunk_get (sz : Nat) : ∀ (n : Nat) (l : List V) (i : Nat) (h : i < (chunk sz n l).length), (chunk sz n l)[i] = (l.drop (i * sz)).take sz
  | n + 1, l, 0, _ => by simp [chunk]
  | n + 1, l, i + 1, h => by
    simp only [chunk, List.getElem_cons_succ]
    rw [chunk_get sz n (l.drop sz) i, List.drop_drop]
    congr 2; rw [Nat.succ_mul]; omega

theorem sound_slcA {P : Program} {N c t a w h} (hh : HRel c w h) (ht : TRel N c t a) {ty e : TypeId} {n sz b} (hu : P.underlying ty = some (.array n e)) (hk : cSize P e = some (sz, b)) {x : Operand} {x' : Opd} (hx : cOpd N x = some x') {lo hi : Option Operand} {lo' hi' : Option Opd} (hlo : cOpt N lo = some lo') (hhi : cOpt N hi = some hi') {v h'}
    (hs : opStep t h (.slcA x' lo' hi' n sz) = some (v, h')) : Ok P c w h (Instr.sliceAt ty (a.eval x) (lo.map a.eval) (hi.map a.eval) none) v h' := by
  have r1 := opd_rel ht hx
  simp only [opStep] at hs
  generalize x'.ev t = xv at *
  generalize a.eval x = xc at *
  split at hs
  case h_2 => cases hs
  case h_1 id =>
    split at hs
    case h_2 => cases hs
    case h_1 l r hb =>
      split at hs
      case h_2 => cases hs
      case h_1 cs hid =>
        split at hs
        case isFalse => cases hs
        case isTrue hc =>
          obtain ⟨hl, hpure, hones⟩ := hc
          cases hs
          obtain ⟨p, hp, hn, rfl⟩ := r1.ptr_inv
          obtain ⟨g1, g2, g3⟩ := run_bounds (P := P) (w := w) ht false (Nat.le_refl n) hlo hhi hb
          obtain ⟨p', cc, e', fr, hp', _, hw, h1, h2, h3, h4, h5⟩ := row_cells hh hid
          rw [hp] at hp'; cases hp'
          obtain ⟨s1, s2⟩ := hh.change (w' := w) id _ (.arr (chunk sz n cs) sz) p hid trivial hp hn rfl (fun _ _ => rfl) rfl rfl rfl (by
            refine ⟨fun h => (by rw [hn] at h; cases h), ?_, ?_, fun _ => ⟨cc, ⟨hn, h1, h2, e', fr, hw, h5⟩, by rw [chunk_length]; omega, ?_⟩⟩
            · intro x hx
              obtain ⟨i, hi, rfl⟩ := List.getElem_of_mem hx
              rw [chunk_get]; exact ones_take _ (ones_drop _ hones)
            · intro i hi
              rw [chunk_get]
              rw [chunk_length] at hi
              have := mul_step (s := sz) hi
              simp; omega
            · intro i hi j hj
              rw [chunk_length] at hi
              have hms := mul_step (s := sz) hi
              simp only [chunk_get] at hj ⊢
              have hj' : j < sz := by simp at hj; omega
              obtain ⟨x, hx, hv⟩ := h4 (i * sz + j) (by omega)
              refine ⟨x, by rw [← hx]; congr 1; omega, ?_⟩
              have := pure_rel (pures_get hpure (i * sz + j) (by omega)) hv
              simpa using this)
          refine ⟨.slice (some (if n = l then ⟨p.block, p.base + 0, none⟩ else ⟨p.block, p.base + 0 + l * sz, none⟩)) (r - l) (n - l), w, c, ?_, ?_, s1, s2⟩
          · simp [Instr.sliceAt, Sem.run_bind, run_underlying hu, Instr.sureAddr, g1, run_sizeOf' hk, Addr.add_mid]
          · by_cases hnl : n = l
            · rw [if_pos hnl]
              exact .sl _ _ _ _ _ _ _ _ p hp hn (by omega) (.inr (by omega)) (fun h => by omega) (fun x hx => by cases hx; rfl)
            · rw [if_neg hnl]
              refine .sl _ _ _ _ _ _ _ _ p hp hn (by omega) (.inl (by omega)) (fun _ => ?_) (fun x hx => by cases hx; rfl)
              have e2 : n * sz = l * sz + (n - l) * sz := by rw [← Nat.add_mul]; congr 1; omega
              omega

theorem mm_run {P : Program} {w : World} (mx : Bool) (k : IntKind) {ro m} : ∀ (vs : List V) (cs : List Value) (a : Int) {r : Int}, vs.length = cs.length → (∀ i (h : i < vs.length) (h' : i < cs.length), VRel ro m vs[i] cs[i]) → mmGo mx k a vs = some r →
    (cs.foldlM (if mx then Builtin.max2 else Builtin.min2) (Value.int k a)).run P w = .ok (.int k r) w
  | [], cs, a, r, hl, _, h => by
    have : cs = [] := List.eq_nil_of_length_eq_zero hl.symm
    subst this
    simp [mmGo] at h; subst h; rfl
  | v :: vs, [], a, r, hl, _, h => by simp at hl
  | v :: vs, cv :: cs, a, r, hl, hv, h => by
    cases v <;> simp only [mmGo] at h <;> try (cases h; done)
    rename_i k' b
    split at h
    case isFalse => cases h
    case isTrue e =>
      subst e
      have h0 := hv 0 (by simp) (by simp)
      simp only [List.getElem_cons_zero] at h0
      rw [h0.int_inv]
      have ih := mm_run (P := P) (w := w) mx k vs cs _ (by simpa using hl) (fun i a b => by
        have := hv (i + 1) (by simpa using a) (by simpa using b)
        rw [List.getElem_cons_succ, List.getElem_cons_succ] at this
        exact this) h
      cases mx
      · simp only [Bool.false_eq_true, if_false] at ih ⊢
        simp only [List.foldlM_cons, Sem.run_bind, Builtin.min2, Sem.run_pure, Result.andThen_ok]
        exact ih
      · simp only [if_true] at ih ⊢
        simp only [List.foldlM_cons, Sem.run_bind, Builtin.max2, Sem.run_pure, Result.andThen_ok]
        rw [show (if b > a then b else a) = (if a < b then b else a) from rfl]
        exact ih

theorem sound_mm {P : Program} {c w h} (hh : HRel c w h) (mx : Bool) {vs : List V} {cs : Array Value} (hr : VRels c.ro c.m vs cs) {v : V} (hs : aMM mx vs = some v) (ts ty) :
    Ok P c w h (if mx then Builtin.max_ ts ty cs else Builtin.min_ ts ty cs) v h := by
  cases vs with
  | nil => simp [aMM] at hs
  | cons v0 vs =>
    cases v0 <;> simp only [aMM] at hs <;> try (cases hs; done)
    rename_i k a
    cases hm : mmGo mx k a vs with
    | none => simp [hm] at hs
    | some r =>
      simp [hm] at hs; subst hs
      have hl := hr.1
      obtain ⟨cl⟩ := cs
      cases cl with
      | nil => simp at hl
      | cons c0 cl =>
        have h0 := hr.2 0 (by simp) (by simp)
        simp only [List.getElem_cons_zero] at h0
        have hc0 : c0 = .int k a := h0.int_inv
        subst hc0
        have := mm_run (P := P) (w := w) mx k vs cl a (by simpa using hl) (fun i a b => by
          have := hr.2 (i + 1) (by simpa using a) (by simpa using b)
          rw [List.getElem_cons_succ] at this
          exact this) hm
        refine Ok.of_same hh (cv := .int k r) ?_ (.int ..)
        cases mx
        · exact this
        · exact this

end Sx

/-
  Sx, part Mb: what is known of variables' types; strings.Builder's own operations.
-/
namespace Sx
open Go

theorem any_ty {h : List O} {p : O → Bool} (ha : h.any p = true) : ∃ (i : Nat) (o : O), h[i]? = some o ∧ p o = true := by
  obtain ⟨o, ho, hp⟩ := List.any_eq_true.1 ha
  obtain ⟨i, hi⟩ := List.mem_iff_getElem?.1 ho
  exact ⟨i, o, hi, hp⟩

theorem hasTy_spec {c w h id ty} (hh : HRel c w h) (ha : hasTy h id ty = true) : ∃ q, c.m id = some q ∧ (q.null = false → q.ty = ty ∧ q.base = 0) := by
  obtain ⟨i, o, hi, hp⟩ := any_ty ha
  cases o with
  | ty j t n =>
    simp only [Bool.and_eq_true, beq_iff_eq] at hp
    obtain ⟨rfl, rfl⟩ := hp
    obtain ⟨p, _, ⟨_, q, h1, h2⟩, _⟩ := hh.obj i _ hi trivial
    exact ⟨q, h1, fun hn => ⟨(h2 hn).1, (h2 hn).2.1⟩⟩
  | _ => simp at hp

theorem hasTyN_spec {c w h id ty n} (hh : HRel c w h) (ha : hasTyN h id ty n = true) : ∃ q, c.m id = some q ∧ (q.null = false → q.ty = ty ∧ q.base = 0 ∧ q.top = n) := by
  obtain ⟨i, o, hi, hp⟩ := any_ty ha
  cases o with
  | ty j t k =>
    simp only [Bool.and_eq_true, beq_iff_eq] at hp
    obtain ⟨⟨rfl, rfl⟩, rfl⟩ := hp
    obtain ⟨p, _, ⟨_, q, h1, h2⟩, _⟩ := hh.obj i _ hi trivial
    exact ⟨q, h1, fun hn => ⟨(h2 hn).1, (h2 hn).2.1, (h2 hn).2.2 n rfl⟩⟩
  | _ => simp at hp

/-- what is known of an object may be written down -/
theorem ghost_ok {c : Ctx} {w : World} {h : List O} (hh : HRel c w h) {id : Nat} {q : Place} {ty : TypeId} {n : Option Nat} (hq : c.m id = some q) (hp : q.null = false → q.ty = ty ∧ q.base = 0 ∧ ∀ k, n = some k → q.top = k) :
    ∃ c', HRel c' w (h ++ [.ty id ty n]) ∧ Adv c w h c' w (h ++ [.ty id ty n]) := by
  obtain ⟨h1, h2⟩ := hh.move (w' := w) (h' := h) (.ty id ty n) ⟨0, 0, 0, true, 0⟩ rfl (fun _ _ h _ => h) (fun h => by cases h) (Nat.le_refl _) (fun _ _ _ => rfl) rfl rfl rfl
    (fun m' hm => ⟨rfl, q, hm _ _ hq, hp⟩)
  exact ⟨_, h1, h2⟩

theorem sound_allocT {P : Program} {c w h} (hh : HRel c w h) (e : TypeId) {l : List V} (hz : cZero P e = some l) :
    Ok P c w h (Instr.alloc e true (.tuple #[])) (.ptr h.length 0) (h ++ [.row l] ++ [.ty h.length e (some l.length)]) := by
  obtain ⟨i, z, hi, hz, h1, h2, h3⟩ := cZero_spec hz
  obtain ⟨w', c', g1, g2, g3, g4⟩ := newRow_ok (P := P) hh e z.cells (.row l) (fun m' hm w' hw => row_of_cells (h3 _ _) e _ m' hm w' hw)
  obtain ⟨c2, k1, k2⟩ := ghost_ok g3 (ty := e) (n := some l.length) g2 (fun _ => ⟨rfl, rfl, fun k hk => by cases hk; simp only; omega⟩)
  refine ⟨.pointer (some ⟨w.heap.size, 0, none⟩), w', c2, ?_, ?_, k1, g4.trans hh k2⟩
  · simp only [Instr.alloc, Sem.run_bind, run_zeroValue hi hz, Result.andThen_ok, newVar, g1]; rfl
  · exact (VRel.ptr _ _ _ ⟨w.heap.size, 0, z.cells.size, false, e⟩ (k2.m _ _ g2) rfl)

theorem shape_of_heap {w : World} {b : Nat} {cc : Array Value} {e fr} (h : w.heap[b]? = some (.cells cc e fr)) : w.shape? b = some (e, cc.size) := by
  simp [World.shape?, h]

theorem sound_cvU {P : Program} {c w h} (hh : HRel c w h) {s d t : TypeId} {j : TypeInfo} (hs : P.underlying s = some (.pointer t)) (hd : P.underlying d = some .unsafePointer) (ht : P.info? t = some j) (hj : j.size ≠ 0)
    {id o : Nat} {xc : Value} (hx : VRel c.ro c.m (.ptr id o) xc) {cs : List V} (hid : h[id]? = some (.row cs)) (ho : o < cs.length) : Ok P c w h (convert s d xc) (.ptr id o) h := by
  obtain ⟨p, cc, e, fr, h1, h2, h3, h4, h5, h6, _, _⟩ := row_cells hh hid
  obtain ⟨q, g1, g2, rfl⟩ := hx.ptr_inv
  rw [h1] at g1; cases g1
  exact Ok.of_same hh (Lib.run_to_unsafe w _ hs hd ht hj (shape_of_heap h3) (by simp only; omega)) hx

theorem sound_cvP {P : Program} {c w h} (hh : HRel c w h) {s d u : TypeId} {j : TypeInfo} (hs : P.underlying s = some .unsafePointer) (hd : P.underlying d = some (.pointer u)) (hu : P.info? u = some j)
    (hlies : liesAt P P.depth u (j.size / P.cellsOf u) 0 u 1 = true) {id : Nat} {xc : Value} (hx : VRel c.ro c.m (.ptr id 0) xc) {cs : List V} (hid : h[id]? = some (.row cs)) (hty : hasTyN h id u j.size = true) :
    Ok P c w h (convert s d xc) (.ptr id 0) h := by
  obtain ⟨p, cc, e, fr, h1, h2, h3, h4, h5, h6, _, _⟩ := row_cells hh hid
  obtain ⟨q, g1, g2, rfl⟩ := hx.ptr_inv
  rw [h1] at g1; cases g1
  obtain ⟨q, g1, g3⟩ := hasTyN_spec hh hty
  rw [h1] at g1; cases g1
  obtain ⟨k1, k2, k3⟩ := g3 h2
  have hsh := shape_of_heap h3
  rw [e.2, k1, h4, k3] at hsh
  exact Ok.of_same hh (Lib.run_from_unsafe w _ hs hd hu hsh (by simpa [k2] using hlies)) hx

theorem noEsc_run {P : Program} {f : FuncId} (h : isNoEsc P (.func f) = true) (x : Value) (w : World) : (callFunc f #[x]).run P w = .ok (.value x) w := by
  unfold isNoEsc at h
  simp only at h
  split at h
  · rename_i fn hf
    simp only [Bool.and_eq_true, beq_iff_eq] at h
    obtain ⟨⟨h1, h2⟩, h3⟩ := h
    have a1 : Extern.allNextRows.lookup "internal/abi.NoEscape" = none := by kernel_rfl
    have a2 : Extern.allNextRows.lookup "" = none := by kernel_rfl
    have a3 : Extern.allGenericRows.lookup "internal/abi.NoEscape" = none := by kernel_rfl
    have a4 : Extern.allTypedRows.lookup "internal/abi.NoEscape" = none := by kernel_rfl
    have e1 : Extern.findNext fn = none := by unfold Extern.findNext; rw [h1, h2]; simp only [a1, a2]; rfl
    have e2 : Extern.find fn = some Extern.AbiNoEscape.same := by unfold Extern.find; rw [h1]; simp only [a3, a4]; rfl
    have e3 : (fn.name == "runtime.NumGoroutine") = false := by rw [h1]; decide
    rw [run_callFunc_extern hf e3 h3 e1 e2, Lib.run_noEscape]; rfl
  · cases h

theorem sound_usd {P : Program} {c w h} (hh : HRel c w h) {ts ty} {id off len sz : Nat} {k : Option Nat} {xc : Value} (hx : VRel c.ro c.m (.sl id off len sz k) xc) (h1 : sz = 1) (h2 : 0 < len) :
    Ok P c w h (Builtin.unsafeSliceData_ ts ty #[xc]) (.ptr id off) h := by
  subst h1
  rcases hx.sl_inv with ⟨p, cap, o, hp, hn, hcap, ho, hto, hk, rfl⟩ | ⟨p, a, hp, hn, rfl, rfl, rfl, rfl⟩
  · have ho' : o = p.base + off := by rcases ho with h | h <;> omega
    subst ho'
    exact Ok.of_same hh (Lib.run_unsafeSliceData_row _ _ _ _ _ _ (by omega)) (.ptr _ _ _ p hp hn)
  · omega

theorem byteOk_spec : ∀ {es : List (List V)} {l : List UInt8}, byteOk es = true → bytesOf es = some l → es = byteEls l
  | [], l, _, h => by simp [bytesOf] at h; subst h; rfl
  | [.int .u8 n] :: r, l, h1, h2 => by
    simp only [byteOk, Bool.and_eq_true, decide_eq_true_eq] at h1
    simp only [bytesOf] at h2
    cases hr : bytesOf r with
    | none => simp [hr] at h2
    | some l' =>
      simp [hr] at h2; subst h2
      rw [byteOk_spec h1.2 hr]
      have : n = ((UInt8.ofNat n.toNat).toNat : Int) := by
        rw [UInt8.toNat_ofNat', Nat.mod_eq_of_lt (by omega)]; omega
      simp only [byteEls, List.map_cons]; rw [← this]
  | [] :: _, _, h, _ => by simp [byteOk] at h
  | (_ :: _ :: _) :: _, _, h, _ => by simp [byteOk] at h
  | [.bool _] :: _, _, h, _ => by simp [byteOk] at h
  | [.str _] :: _, _, h, _ => by simp [byteOk] at h
  | [.nilp] :: _, _, h, _ => by simp [byteOk] at h
  | [.nils] :: _, _, h, _ => by simp [byteOk] at h
  | [.nilf] :: _, _, h, _ => by simp [byteOk] at h
  | [.nilm] :: _, _, h, _ => by simp [byteOk] at h
  | [.ptr ..] :: _, _, h, _ => by simp [byteOk] at h
  | [.eptr ..] :: _, _, h, _ => by simp [byteOk] at h
  | [.rptr ..] :: _, _, h, _ => by simp [byteOk] at h
  | [.sl ..] :: _, _, h, _ => by simp [byteOk] at h
  | [.vs ..] :: _, _, h, _ => by simp [byteOk] at h
  | [.zs] :: _, _, h, _ => by simp [byteOk] at h
  | [.mp _] :: _, _, h, _ => by simp [byteOk] at h
  | [.fn ..] :: _, _, h, _ => by simp [byteOk] at h
  | [.agg _] :: _, _, h, _ => by simp [byteOk] at h
  | [.tup _] :: _, _, h, _ => by simp [byteOk] at h
  | [.any] :: _, _, h, _ => by simp [byteOk] at h
  | [.bad] :: _, _, h, _ => by simp [byteOk] at h
  | [.int .i8 _] :: _, _, h, _ | [.int .i16 _] :: _, _, h, _ | [.int .i32 _] :: _, _, h, _ | [.int .i64 _] :: _, _, h, _ | [.int .u16 _] :: _, _, h, _ | [.int .u32 _] :: _, _, h, _ | [.int .u64 _] :: _, _, h, _ => by simp [byteOk] at h

theorem freeze_heap {w : World} {b n : Nat} : ∀ k, k ≠ b → (w.freeze ⟨b, 0, none⟩ n).heap[k]? = w.heap[k]? := by
  intro k hk
  unfold World.freeze
  split
  · rfl
  · simp only [Array.getElem?_modify]; rw [if_neg (Ne.symm hk)]

theorem freeze_rest (w : World) (b n : Nat) : (w.freeze ⟨b, 0, none⟩ n).heap.size = w.heap.size ∧ (w.freeze ⟨b, 0, none⟩ n).os = w.os ∧ (w.freeze ⟨b, 0, none⟩ n).output = w.output ∧ (w.freeze ⟨b, 0, none⟩ n).tape = w.tape := by
  unfold World.freeze
  split
  · exact ⟨rfl, rfl, rfl, rfl⟩
  · exact ⟨by simp, rfl, rfl, rfl⟩

theorem byteEls_get {l : List UInt8} {i : Nat} (h : i < l.length) (h' : i < (byteEls l).length) : (byteEls l)[i] = [.int .u8 l[i].toNat] := by simp [byteEls]

theorem sound_ustr {P : Program} {c w h} (hh : HRel c w h) {pt it ty e : TypeId} (hp : P.underlying pt = some (.pointer e)) (hc : P.cellsOf e = 1) {id : Nat} {m : Int} {xc yc : Value} (hx : VRel c.ro c.m (.ptr id 0) xc) (hy : VRel c.ro c.m (.int .i64 m) yc)
    {es : List (List V)} (hid : h[id]? = some (.arr es 1)) (hty : hasTy h id e = true) (h0 : 0 < m) (h63 : m ≤ 9223372036854775807) (hm : m.toNat ≤ es.length) (hok : byteOk (es.take m.toNat) = true) {l : List UInt8} (hl : bytesOf (es.take m.toNat) = some l) :
    Ok P c w h (Builtin.unsafeString_ #[pt, it] ty #[xc, yc]) (.str l) (h.set id .gone) := by
  obtain ⟨p, h1, h2, rfl⟩ := hx.ptr_inv
  have hes := byteOk_spec hok hl
  have hlen : l.length = m.toNat := by
    have := congrArg List.length hes
    simp [byteEls] at this; omega
  obtain ⟨cc, e', fr, hw, q1, q2, q3, q4, q5, q6, q7⟩ := arr_cells hh hid h1 h2
  obtain ⟨q, g1, g2⟩ := hasTy_spec hh hty
  rw [h1] at g1; cases g1
  obtain ⟨k1, k2⟩ := g2 h2
  have hsh := shape_of_heap hw
  rw [e'.2, k1] at hsh
  have hy' : yc = .int .i64 l.length := by rw [hy.int_inv, hlen]; congr 1; omega
  have hcell : ∀ j x, l[j]? = some x → w.cell? ((⟨p.block, 0, none⟩ : Addr).add j) = some (.int .u8 x.toNat) := by
    intro j x hj
    obtain ⟨hjl, rfl⟩ := List.getElem?_eq_some_iff.1 hj
    have hj1 : j < es.length := by omega
    have e1 : es[j] = [.int .u8 l[j].toNat] := by
      have e2 : (es.take m.toNat)[j]'(by simp; omega) = (byteEls l)[j]'(by simp [byteEls]; exact hjl) := by simp only [hes]
      rw [List.getElem_take, byteEls_get hjl] at e2
      exact e2
    have hj0 : 0 < es[j].length := by rw [e1]; exact Nat.one_pos
    obtain ⟨u, hu, hv⟩ := q6 j hj1 0 hj0
    have e3 : es[j][0] = V.int .u8 l[j].toNat := by simp only [e1, List.getElem_cons_zero]
    rw [e3] at hv
    rw [hv.int_inv] at hu
    have : (⟨p.block, 0, none⟩ : Addr).add j = ⟨p.block, j, none⟩ := by rw [Addr.add_mid, Nat.zero_add]
    rw [this, cell_of_heap hw, ← hu, k2]
    congr 1; omega
  have hl0 : l ≠ [] := by intro h; rw [h] at hlen; simp at hlen; omega
  have hrun := Lib.run_unsafeString_row (P := P) (w := w) pt it ty e hp hc p.block cc.size hsh l hl0 (by omega) (by omega) hcell
  obtain ⟨r1, r2, r3, r4⟩ := freeze_rest w p.block l.length
  obtain ⟨s1, s2⟩ := hh.change (w' := w.freeze ⟨p.block, 0, none⟩ l.length) id _ .gone p hid trivial h1 h2 r1 (fun b hb => freeze_heap b hb) r2 r3 r4 trivial
  refine ⟨_, _, c, ?_, .str _ _, s1, s2⟩
  rw [hy', k2]
  exact hrun

theorem sound_appendB {P : Program} {c w h} (hh : HRel c w h) {t u ty e : TypeId} {bytes : Nat} {z : List V} (hel : cElem P t = some (1, z, bytes)) (hbp : 0 < bytes) (hu : P.underlying u = some .string) (hte : P.underlying t = some (.slice e))
    {xv yv : V} {xc yc : Value} (hx : VRel c.ro c.m xv xc) (hy : VRel c.ro c.m yv yc) (hok : okTy h e xv = true) {v h'} (hs : appendV h xv yv 1 bytes true = some (v, h')) :
    Ok P c w h (Builtin.append_ #[t, u] ty #[xc, yc]) v (h' ++ [.ty h.length e none]) := by
  obtain ⟨cv, w', c', h1, h2, h3, h4, q, e', k1, k2, k3⟩ := sound_appendX (P := P) (ty := ty) hh hel hbp (.inl ⟨rfl, hu, rfl⟩) hx hy hs
  rw [hte] at k2; cases k2
  obtain ⟨c2, g1, g2⟩ := ghost_ok h3 (ty := e) (n := none) k1 (fun hn => by
    rcases k3 hn with ⟨a, b⟩ | ⟨id, off, len, s, k, p, rfl, hp, hpn, hq1, hq2⟩
    · exact ⟨a, b, fun k hk => by cases hk⟩
    · simp only [okTy, Bool.and_eq_true, beq_iff_eq] at hok
      obtain ⟨rfl, hty⟩ := hok
      obtain ⟨q', j1, j2⟩ := hasTy_spec hh hty
      rw [hp] at j1; cases j1
      obtain ⟨j3, j4⟩ := j2 hpn
      exact ⟨by rw [hq1, j3], by rw [hq2, j4]; omega, fun k hk => by cases hk⟩)
  exact ⟨cv, w', c2, h1, h2.mono g2.ro g2.m, g1, h4.trans hh g2⟩

end Sx

/-
  Sx, part Mc: maps whose keys are numbers, texts, truths.
-/
namespace Sx
open Go

theorem kEq_run {κ : Nat} {d : TypeDesc} (hd : cKind d = some κ) {ro m m'} {k k' : V} {kc kc' : Value} (hk : VRel ro m k kc) (hk' : VRel ro m' k' kc') {b : Bool} (h : kEq κ k k' = some b) :
    Instr.sameNow d kc kc' = some b ∧ (b = true → kc' = kc) := by
  unfold kEq at h
  split at h
  · split at h <;> cases h
    rename_i e
    subst e
    rw [hk.int_inv, hk'.int_inv]
    cases d <;> simp [cKind] at hd
    refine ⟨by simp [Instr.sameNow]; rw [Bool.eq_iff_iff]; simp, fun hb => ?_⟩
    rw [of_decide_eq_true hb]
  · cases h
    rw [hk.str_inv, hk'.str_inv]
    cases d <;> simp [cKind] at hd
    refine ⟨?_, fun hb => by rw [of_decide_eq_true hb]⟩
    simp only [Instr.sameNow, Option.some.injEq]
    rw [Bool.eq_iff_iff, MapKept.bytes_beq]
    simp
  · cases h
    rw [hk.bool_inv, hk'.bool_inv]
    cases d <;> simp [cKind] at hd
    refine ⟨rfl, fun hb => by rw [eq_of_beq hb]⟩
  · cases h

theorem kEq_pure {κ : Nat} {ro m} {k : V} {kc : Value} (hk : VRel ro m k kc) {k'} {b : Bool} (h : kEq κ k k' = some b) : VRel ro Pl.none k kc ∧ ∀ n, Instr.sameBits n kc kc = true := by
  unfold kEq at h
  split at h
  · rw [hk.int_inv]; exact ⟨.int .., fun n => by cases n <;> simp [Instr.sameBits]⟩
  · rw [hk.str_inv]; exact ⟨.str .., fun n => by cases n <;> simp [Instr.sameBits, MapKept.bytes_beq]⟩
  · rw [hk.bool_inv]; exact ⟨.bool .., fun n => by cases n <;> simp [Instr.sameBits]⟩
  · cases h

theorem mFind_run {κ : Nat} {d : TypeDesc} (hd : cKind d = some κ) {ro m} {k : V} {kc : Value} (hk : VRel ro m k kc) : ∀ (es : List (V × V)) (ce : List MapEntry) (i : Nat) {r},
    es.length = ce.length → (∀ j (h : j < es.length) (h' : j < ce.length), VRel ro Pl.none es[j].1 ce[j].key) → mFind κ k es i = some r →
    (r = none ∧ Instr.findNow d kc ce i = some none) ∨ ∃ (j : Nat) (e : MapEntry), r = some (i + j) ∧ ce[j]? = some e ∧ Instr.findNow d kc ce i = some (some (i + j, e.val)) ∧ e.key = kc ∧ VRel ro Pl.none k kc ∧ ∀ n, Instr.sameBits n kc kc = true
  | [], ce, i, r, hl, _, h => by
    cases ce with
    | nil => cases h; exact .inl ⟨rfl, rfl⟩
    | cons => simp at hl
  | e :: es, [], i, r, hl, _, h => by simp at hl
  | e :: es, x :: ce, i, r, hl, hv, h => by
    have h0 := hv 0 (by simp) (by simp)
    simp only [List.getElem_cons_zero] at h0
    simp only [mFind] at h
    split at h
    · rename_i hb
      cases h
      obtain ⟨h1, h2⟩ := kEq_run hd hk h0 hb
      obtain ⟨h3, h4⟩ := kEq_pure hk hb
      exact .inr ⟨0, x, rfl, rfl, by simp [Instr.findNow, h1], h2 rfl, h3, h4⟩
    · rename_i hb
      obtain ⟨h1, h2⟩ := kEq_run hd hk h0 hb
      rcases mFind_run hd hk es ce (i + 1) (by simpa using hl) (fun j a b => by have := hv (j + 1) (by simp; omega) (by simp; omega); simpa using this) h with ⟨h3, h4⟩ | ⟨j, y, h3, h4, h5, h6⟩
      · exact .inl ⟨h3, by simp [Instr.findNow, h1, h4]⟩
      · exact .inr ⟨j + 1, y, by rw [h3]; congr 1; omega, by simpa using h4, by simp [Instr.findNow, h1, h5]; omega, h6⟩
    · cases h

theorem kEq_ne {κ : Nat} {ro m m'} {k k' : V} {kc kc' : Value} (hk : VRel ro m k kc) (hk' : VRel ro m' k' kc') (h : kEq κ k k' = some false) : kc' ≠ kc := by
  unfold kEq at h
  split at h
  · split at h
    · rename_i e
      rw [hk.int_inv, hk'.int_inv]
      intro hc; cases hc
      simp at h
    · cases h
  · rw [hk.str_inv, hk'.str_inv]
    intro hc
    simp only [Option.some.injEq, decide_eq_false_iff_not] at h
    refine h ?_
    injection hc with hc
    injection hc with hc
    simpa using hc.symm
  · rw [hk.bool_inv, hk'.bool_inv]
    intro hc; cases hc
    simp at h
  · cases h

theorem mFind_none {κ : Nat} {d : TypeDesc} (hd : cKind d = some κ) {ro m} {k : V} {kc : Value} (hk : VRel ro m k kc) : ∀ (es : List (V × V)) (ce : List MapEntry) (i : Nat),
    es.length = ce.length → (∀ j (h : j < es.length) (h' : j < ce.length), VRel ro Pl.none es[j].1 ce[j].key) → mFind κ k es i = some none → ∀ x ∈ ce, x.key ≠ kc
  | [], ce, i, hl, _, h => by
    cases ce with
    | nil => intro x hx; cases hx
    | cons => simp at hl
  | e :: es, [], i, hl, _, h => by simp at hl
  | e :: es, x :: ce, i, hl, hv, h => by
    have h0 := hv 0 (by simp) (by simp)
    simp only [List.getElem_cons_zero] at h0
    simp only [mFind] at h
    split at h
    · cases h
    · rename_i hb
      intro y hy
      rcases List.mem_cons.1 hy with rfl | hy
      · exact kEq_ne hk h0 hb
      · exact mFind_none hd hk es ce (i + 1) (by simpa using hl) (fun j a b => by have := hv (j + 1) (by simp; omega) (by simp; omega); simpa using this) h y hy
    · cases h

theorem cKey_spec {P t κ e} (h : cKey P t = some (κ, e)) : ∃ kt d, P.underlying t = some (.map kt e) ∧ P.underlying kt = some d ∧ cKind d = some κ := by
  unfold cKey at h
  split at h
  · rename_i kt e' hu
    split at h
    · rename_i d hd
      cases hk : cKind d with
      | none => simp [hk] at h
      | some κ' => simp [hk] at h; obtain ⟨rfl, rfl⟩ := h; exact ⟨kt, d, hu, hd, hk⟩
    · cases h
  · cases h

theorem checkKey_run {P : Program} {w : World} {kt : TypeId} {d : TypeDesc} {κ} (hd : P.underlying kt = some d) (hk : cKind d = some κ) (v : Value) (e : Bool) (n : Nat) : (Instr.checkKey e (n + 1) kt v).run P w = .ok () w := by
  unfold Instr.checkKey
  simp only [Sem.run_bind, run_underlying hd, Result.andThen]
  cases d <;> simp_all [cKind]

theorem map_obj {c : Ctx} {w : World} {h : List O} (hh : HRel c w h) {id : Nat} {es : List (V × V)} (hid : h[id]? = some (.map es)) {xc : Value} (hx : VRel c.ro c.m (.mp id) xc) :
    ∃ (p : Place) (ce : Array MapEntry) (clock : Nat), xc = .map (some p.block) ∧ c.m id = some p ∧ p.null = false ∧ w.heap[p.block]? = some (.map ce clock) ∧ MapKept.Stamped ce clock ∧ es.length = ce.size ∧
      ∀ i (h : i < es.length) (h' : i < ce.size), VRel c.ro Pl.none es[i].1 ce[i].key ∧ VRel c.ro c.m es[i].2 ce[i].val := by
  cases hx with
  | mp _ _ p hp hn =>
    obtain ⟨p', hp', ⟨h0, ce, cl, h1, hst, h2, h3⟩, _⟩ := hh.obj id _ hid trivial
    rw [hp] at hp'; cases hp'
    exact ⟨p, ce, cl, rfl, hp, hn, h1, hst, h2, h3⟩

theorem sound_mkm {P : Program} {c w h} (hh : HRel c w h) (t : TypeId) : Ok P c w h (Instr.makeMap t none) (.mp h.length) (h ++ [.map []]) := by
  obtain ⟨h1, h2⟩ := hh.grow (w' := { w with heap := w.heap.push (.map #[] 0) }) (.map []) ⟨w.heap.size, 0, 0, false, 0⟩ (fun _ => Nat.le_refl _) (by simp) (fun b hb => by
    simp only [Array.getElem?_push]; rw [if_neg (by omega)]) rfl rfl rfl (fun m' hm => ⟨rfl, #[], 0, by simp, MapKept.stamped_empty 0, rfl, fun i h => by simp at h⟩)
  exact ⟨.map (some w.heap.size), _, _, rfl, .mp _ _ ⟨w.heap.size, 0, 0, false, 0⟩ (by simp) rfl, h1, h2⟩

theorem sound_mupd {P : Program} {c w h} (hh : HRel c w h) {t e : TypeId} {κ : Nat} (hk : cKey P t = some (κ, e)) {id : Nat} {es : List (V × V)} (hid : h[id]? = some (.map es)) {mc : Value} (hm : VRel c.ro c.m (.mp id) mc)
    {k x : V} {kc xc : Value} (hkc : VRel c.ro c.m k kc) (hxc : VRel c.ro c.m x xc) {es' : List (V × V)}
    (hs : (∃ i, mFind κ k es 0 = some (some i) ∧ es' = es.set i (k, x)) ∨ (mFind κ k es 0 = some none ∧ (kEq κ k k).isSome = true ∧ es' = es ++ [(k, x)])) :
    ∃ w', (Instr.mapUpdate t mc kc xc).run P w = .ok () w' ∧ HRel c w' (h.set id (.map es')) ∧ Adv c w h c w' (h.set id (.map es')) := by
  obtain ⟨kt, d, hu, hd, hκ⟩ := cKey_spec hk
  obtain ⟨p, ce, cl, rfl, hp, hn, hw, hst, hl, hv⟩ := map_obj hh hid hm
  have hlt : p.block < w.heap.size := (Array.getElem?_eq_some_iff.1 hw).1
  have fin : ∀ (ce' : Array MapEntry) (cl' : Nat), MapKept.Stamped ce' cl' → es'.length = ce'.size → (∀ i (h : i < es'.length) (h' : i < ce'.size), VRel c.ro Pl.none es'[i].1 ce'[i].key ∧ VRel c.ro c.m es'[i].2 ce'[i].val) →
      HRel c { w with heap := w.heap.setIfInBounds p.block (.map ce' cl') } (h.set id (.map es')) ∧ Adv c w h c { w with heap := w.heap.setIfInBounds p.block (.map ce' cl') } (h.set id (.map es')) := by
    intro ce' cl' g0 g1 g2
    exact hh.change id _ (.map es') p hid trivial hp hn (by simp) (fun b hb => by simp [Ne.symm hb]) rfl rfl rfl ⟨hn, ce', cl', by simp [hlt], g0, g1, g2⟩
  have hrel : ∀ j (h : j < es.length) (h' : j < ce.toList.length), VRel c.ro Pl.none es[j].1 ce.toList[j].key := fun j a b => by
    have := (hv j a (by simpa using b)).1; simpa using this
  rcases hs with ⟨i, hf, rfl⟩ | ⟨hf, heq, rfl⟩
  · rcases mFind_run hκ hkc es ce.toList 0 (by simpa using hl) hrel hf with ⟨h1, _⟩ | ⟨j, y, h1, h2, h3, h4, h5, h6⟩
    · cases h1
    · simp at h1; subst h1
      simp only [Nat.zero_add] at h3
      have h2' : ce[i]? = some y := by simpa using h2
      have hi : i < ce.size := (Array.getElem?_eq_some_iff.1 h2').1
      have hks : (Instr.keyThatStays kc kc).run P w = .ok kc w := by simp [Instr.keyThatStays, h6]
      obtain ⟨g1, g2⟩ := fin (ce.modify i fun e => { e with key := kc, val := xc }) cl (MapKept.stamped_modify hst _ _ (fun _ _ => rfl) (fun e _ he => by rw [h2'] at he; cases he; exact h4.symm)) (by simp [hl]) (fun j a b => by
        simp only [Array.getElem_modify, List.getElem_set]
        by_cases hij : i = j
        · subst hij; simp only [if_true]; exact ⟨h5, hxc⟩
        · simp only [if_neg hij]; exact hv j (by simpa using a) (by simpa using b))
      refine ⟨_, ?_, g1, g2⟩
      simp [Instr.mapUpdate, run_underlying hu, MapKept.run_getObj_map hw, checkKey_run hd hκ, MapKept.run_findKey hd h3, h2', h4, hks, MapKept.run_setObj_map _ hw, Result.andThen]
  · rcases mFind_run hκ hkc es ce.toList 0 (by simpa using hl) hrel hf with ⟨_, h3⟩ | ⟨j, y, h1, _⟩
    · obtain ⟨b, hb⟩ := Option.isSome_iff_exists.1 heq
      have hpk := (kEq_pure hkc hb).1
      obtain ⟨g1, g2⟩ := fin (ce.push { key := kc, val := xc, born := cl }) (cl + 1) (MapKept.stamped_push hst (mFind_none hκ hkc es ce.toList 0 (by simpa using hl) hrel hf)) (by simp [hl]) (fun j a b => by
        by_cases hj : j < es.length
        · rw [Array.getElem_push_lt (by omega), List.getElem_append_left hj]; exact hv j hj _
        · have e1 : j = es.length := by simp at a; omega
          have e2 : j = ce.size := by omega
          subst e2
          simp only [Array.getElem_push_eq]
          rw [List.getElem_append_right (by omega)]
          simp only [hl, Nat.sub_self, List.getElem_cons_zero]
          exact ⟨hpk, hxc⟩)
      refine ⟨_, ?_, g1, g2⟩
      simp [Instr.mapUpdate, run_underlying hu, MapKept.run_getObj_map hw, checkKey_run hd hκ, MapKept.run_findKey hd h3, MapKept.run_setObj_map _ hw, Result.andThen]
    · cases h1

theorem cZeroV_run {P : Program} {w : World} {t v} (h : cZeroV P t = some v) : ∃ z, (zeroValue t).run P w = .ok z w ∧ ∀ ro m, VRel ro m v z := by
  unfold cZeroV at h
  split at h
  · rename_i i hi
    split at h
    · rename_i z hz
      exact ⟨z, by simp [zeroValue, typeInfo, hi, hz], fun ro m => ofVal_rel h⟩
    · cases h
  · cases h

theorem sound_mget {P : Program} {c w h} (hh : HRel c w h) {t e : TypeId} {κ : Nat} (hk : cKey P t = some (κ, e)) {z : V} (hz : cZeroV P e = some z) {t0 : T} {m' k' : Opd} {mc : Value} (hm : VRel c.ro c.m (m'.ev t0) mc)
    {kc : Value} (hkc : VRel c.ro c.m (k'.ev t0) kc) (ok : Bool) {v : V} {h' : List O} (hs : opStep t0 h (.mget κ m' k' z ok) = some (v, h')) : Ok P c w h (Instr.lookup t mc kc ok) v h' := by
  simp only [opStep] at hs
  generalize m'.ev t0 = xv at *
  generalize k'.ev t0 = k at *
  obtain ⟨kt, d, hu, hd, hκ⟩ := cKey_spec hk
  obtain ⟨zc, hzr, hzv⟩ := cZeroV_run (P := P) (w := w) hz
  have hfin : ∀ (u : V) (uc : Value) (b : Bool), VRel c.ro c.m u uc → VRel c.ro c.m (if ok = true then V.tup [u, .bool b] else u) (if ok = true then .tuple #[uc, .bool b] else uc) := by
    intro u uc b hu
    cases ok
    · exact hu
    · refine .tup _ _ _ rfl fun i h h' => ?_
      have : i = 0 ∨ i = 1 := by simp at h; omega
      rcases this with rfl | rfl
      · exact hu
      · exact .bool ..
  split at hs
  · rename_i id hm
    split at hs
    · rename_i es hid
      obtain ⟨p, ce, cl, rfl, hp, hn, hw, hst, hl, hv⟩ := map_obj hh hid hm
      have hrel : ∀ j (h : j < es.length) (h' : j < ce.toList.length), VRel c.ro Pl.none es[j].1 ce.toList[j].key := fun j a b => by
        have := (hv j a (by simpa using b)).1; simpa using this
      split at hs
      · rename_i i hf
        rcases mFind_run hκ hkc es ce.toList 0 (by simpa using hl) hrel hf with ⟨h1, _⟩ | ⟨j, y, h1, h2, h3, h4, h5, h6⟩
        · cases h1
        · simp at h1; subst h1
          simp only [Nat.zero_add] at h3
          obtain ⟨hi, rfl⟩ := List.getElem?_eq_some_iff.1 h2
          have hi' : i < es.length := by simp at hi; omega
          rw [List.getElem?_eq_getElem hi'] at hs
          cases hs
          refine Ok.of_same hh (cv := if ok = true then .tuple #[ce.toList[i].val, .bool true] else ce.toList[i].val) ?_ (hfin _ _ _ (by have := (hv i hi' (by simpa using hi)).2; simpa using this))
          simp [Instr.lookup, run_underlying hu, MapKept.run_getObj_map hw, checkKey_run hd hκ, MapKept.run_findKey hd h3, Result.andThen]
      · rename_i hf
        cases hs
        rcases mFind_run hκ hkc es ce.toList 0 (by simpa using hl) hrel hf with ⟨_, h3⟩ | ⟨j, y, h1, _⟩
        · refine Ok.of_same hh (cv := if ok = true then .tuple #[zc, .bool false] else zc) ?_ (hfin _ _ _ (hzv _ _))
          simp [Instr.lookup, run_underlying hu, MapKept.run_getObj_map hw, checkKey_run hd hκ, MapKept.run_findKey hd h3, hzr, Result.andThen]
        · cases h1
      · cases hs
    · cases hs
  · rename_i hm
    cases hs
    rw [hm.nilm_inv]
    refine Ok.of_same hh (cv := if ok = true then .tuple #[zc, .bool false] else zc) ?_ (hfin _ _ _ (hzv _ _))
    have h3 : Instr.findNow d kc [] 0 = some none := rfl
    simp [Instr.lookup, run_underlying hu, checkKey_run hd hκ, MapKept.run_findKey hd h3, hzr, Result.andThen]
  · cases hs

end Sx

/-
  Sx, part Md: capacities that are known; appends ahead of the end; copies.
-/
namespace Sx
open Go
set_option linter.unusedSimpArgs false
set_option linter.unusedVariables false

theorem sound_capL {P : Program} {c w h} (hh : HRel c w h) {t e : TypeId} (hu : P.underlying t = some (.slice e)) {id off len s n : Nat} {xc : Value} (hx : VRel c.ro c.m (.sl id off len s (some n)) xc)
    {ts : Array TypeId} (hts : ts[0]? = some t) (ty) : Ok P c w h (Builtin.cap_ ts ty #[xc]) (.int .i64 n) h := by
  rcases hx.sl_inv with ⟨p, cap, o, _, _, _, _, _, hk, rfl⟩ | ⟨p, a, _, _, rfl, rfl, hk, rfl⟩
  · have := hk n rfl; subst this
    exact Ok.of_same hh (cv := .int .i64 n) (by simp [Builtin.cap_, hts, Sem.run_bind, run_underlying hu, goInt]) (.int ..)
  · cases hk

theorem els_take {ro m es sz} {l : List Value} (h : Els ro m es sz (l[·]?)) (k : Nat) : Els ro m (es.take k) sz ((l.take ((es.take k).length * sz))[·]?) := by
  refine ⟨fun i hi => by simp only [List.getElem_take]; exact h.len _ _, fun e he => h.ones e (List.mem_of_mem_take he), fun i hi j hj => ?_⟩
  simp only [List.getElem_take] at hj ⊢
  obtain ⟨x, hx, hv⟩ := h.rel i (by simp at hi; omega) j hj
  have hms := mul_step (s := sz) hi
  have := h.len i (by simp at hi; omega)
  exact ⟨x, by rw [List.getElem?_take_of_lt (by omega)]; exact hx, hv⟩

/-- elements that lie in an owned list, flat -/
theorem sl_flat {c w h} (hh : HRel c w h) {id sz off k : Nat} {es : List (List V)} (hid : h[id]? = some (.arr es sz)) {p : Place} (hp : c.m id = some p) (hn : p.null = false) (hk : off + k ≤ es.length) :
    ∃ news : List Value, news.length = k * sz ∧ Els c.ro Pl.none ((es.drop off).take k) sz (news[·]?) ∧ ∀ j u, news[j]? = some u → w.cell? ⟨p.block, p.base + off * sz + j, none⟩ = some u := by
  obtain ⟨cc, e', fr, hw, q1, q2, q3, hl, hones, q4, q5⟩ := arr_cells hh hid hp hn
  have hlen : ((es.drop off).take k).length = k := by simp; omega
  have := flat_range (ro := c.ro) (m := Pl.none) (w := w) (b := p.block) (o := p.base + off * sz) (sz := sz) (es := (es.drop off).take k)
    (fun i hi => by simp only [List.getElem_take, List.getElem_drop]; exact hl _ _) (fun e he => hones e (List.mem_of_mem_drop (List.mem_of_mem_take he)))
    (fun i hi j hj => by
      simp only [List.getElem_take, List.getElem_drop] at hj ⊢
      obtain ⟨x, hx, hv⟩ := q4 (off + i) (by simp at hi; omega) j hj
      refine ⟨x, ?_, hv⟩
      rw [cell_of_heap hw, ← hx]
      congr 1
      rw [Nat.add_mul]; omega)
  obtain ⟨news, h1, h2, h3⟩ := this
  exact ⟨news, by rw [h1, hlen], h2, h3⟩

/-- elements of an owned list, written over -/
theorem over_ok {P : Program} {c w h} (hh : HRel c w h) {id sz off : Nat} {es src : List (List V)} (hid : h[id]? = some (.arr es sz)) {p : Place} (hp : c.m id = some p) (hn : p.null = false) (hoff : off ≤ es.length)
    {news : List Value} (n1 : news.length = src.length * sz) (n2 : Els c.ro Pl.none src sz (news[·]?)) (hfit : p.base + off * sz + news.length ≤ p.top) :
    (storeCells ⟨p.block, p.base + off * sz, none⟩ news).run P w = .ok () (w.setCells p.block (p.base + off * sz) news) ∧
    HRel c (w.setCells p.block (p.base + off * sz) news) (h.set id (.arr (es.take off ++ (src ++ es.drop (off + src.length))) sz)) ∧ Adv c w h c (w.setCells p.block (p.base + off * sz) news) (h.set id (.arr (es.take off ++ (src ++ es.drop (off + src.length))) sz)) := by
  obtain ⟨cc, e', fr, hw, g1, g2, g3, glen, gones, g4, g5⟩ := arr_cells hh hid hp hn
  have hst := store_at (P := P) hw (vs := news) (o := p.base + off * sz) (by omega) (by rw [g1]; exact g5) (n2.one n1)
  obtain ⟨cc', q1, q2, q3⟩ := setCells_heap news w p.block (p.base + off * sz) cc e' fr hw (by omega)
  obtain ⟨k1, k2, k3, k4⟩ := setCells_rest news w p.block (p.base + off * sz)
  have hnl : (es.take off ++ (src ++ es.drop (off + src.length))).length = max es.length (off + src.length) := by simp; omega
  have hget : ∀ (i : Nat) (hi : i < (es.take off ++ (src ++ es.drop (off + src.length))).length), (es.take off ++ (src ++ es.drop (off + src.length)))[i] = if h : off ≤ i ∧ i < off + src.length then src[i - off]'(by omega) else es[i]'(by rw [hnl] at hi; omega) := by
    intro i hi
    rw [hnl] at hi
    by_cases c1 : i < off
    · rw [dif_neg (by omega), List.getElem_append_left (by simp; omega)]; simp
    · by_cases c2 : i < off + src.length
      · rw [dif_pos (by omega), List.getElem_append_right (by simp; omega), List.getElem_append_left (by simp; omega)]
        congr 1; simp; omega
      · rw [dif_neg (by omega), List.getElem_append_right (by simp; omega), List.getElem_append_right (by simp; omega), List.getElem_drop]
        congr 1; simp; omega
  obtain ⟨r1, r2⟩ := hh.change (w' := w.setCells p.block (p.base + off * sz) news) id _ (.arr (es.take off ++ (src ++ es.drop (off + src.length))) sz) p hid trivial hp hn k1 (fun b hb => setCells_other _ _ _ _ _ hb) k2 k3 k4 (by
    refine ⟨fun hnull => (by rw [hn] at hnull; cases hnull), ?_, ?_, fun _ => ⟨cc', ⟨hn, by omega, g2, e', fr, q1, g5⟩, ?_, ?_⟩⟩
    · intro x hx
      simp only [List.mem_append] at hx
      rcases hx with hx | hx | hx
      · exact gones x (List.mem_of_mem_take hx)
      · exact n2.ones x hx
      · exact gones x (List.mem_of_mem_drop hx)
    · intro i hi
      rw [hget i hi]
      split
      · exact n2.len _ _
      · exact glen _ _
    · rw [hnl]
      rcases Nat.le_total es.length (off + src.length) with h1 | h1
      · rw [Nat.max_eq_right h1, Nat.add_mul]; omega
      · rw [Nat.max_eq_left h1]; exact g3
    · intro i hi j hj
      have hi' : i < max es.length (off + src.length) := by rw [hnl] at hi; exact hi
      by_cases c1 : off ≤ i ∧ i < off + src.length
      · have e3 : (es.take off ++ (src ++ es.drop (off + src.length)))[i] = src[i - off]'(by omega) := by rw [hget i hi, dif_pos c1]
        simp only [e3] at hj ⊢
        obtain ⟨x, hx1, hx2⟩ := n2.rel (i - off) (by omega) j hj
        have m1 := mul_step (s := sz) (show i - off < src.length by omega)
        have m2 : i * sz = off * sz + (i - off) * sz := by rw [← Nat.add_mul]; congr 1; omega
        have hj0 := n2.len (i - off) (by omega)
        refine ⟨x, ?_, hx2⟩
        rw [q3 _ (by omega), if_pos (by omega), ← hx1]
        congr 1; omega
      · have hie : i < es.length := by omega
        have e3 : (es.take off ++ (src ++ es.drop (off + src.length)))[i] = es[i] := by rw [hget i hi, dif_neg c1]
        simp only [e3] at hj ⊢
        obtain ⟨x, hx1, hx2⟩ := g4 i hie j hj
        have hms := mul_step (s := sz) hie
        have hj0 := glen i hie
        refine ⟨x, ?_, hx2⟩
        rw [q3 _ (by omega), if_neg]
        · exact hx1
        · rcases Nat.lt_or_ge i off with c2 | c2
          · have := mul_step (s := sz) c2; omega
          · have : off + src.length ≤ i := by omega
            have := Nat.mul_le_mul_right sz this
            rw [Nat.add_mul] at this
            omega)
  exact ⟨hst, r1, r2⟩

theorem sound_copy {P : Program} {c w h} (hh : HRel c w h) {t : TypeId} {n z bytes} (hel : cElem P t = some (n, z, bytes)) {xv yv : V} {xc yc : Value} (hx : VRel c.ro c.m xv xc) (hy : VRel c.ro c.m yv yc) {v h'} (hs : copyV h xv yv n = some (v, h'))
    {ts : Array TypeId} (hts : ts[0]? = some t) (ty : TypeId) : Ok P c w h (Builtin.copy_ ts ty #[xc, yc]) v h' := by
  obtain ⟨e, i, hu, hi, his, hib, hpos, hzl, hz⟩ := cElem_spec hel
  unfold copyV at hs
  split at hs
  case h_2 => cases hs
  case h_1 id off len s kk =>
    split at hs
    case h_2 => cases hs
    case h_1 es s' hid =>
      split at hs
      case h_2 => cases hs
      case h_1 src hsrc =>
        split at hs <;> cases hs
        rename_i hc
        obtain ⟨rfl, e2, hoff⟩ := hc
        have e2 := e2.symm
        subst e2
        -- what is copied
        have hread : ∃ (ylen ycap : Nat) (ya : Option Addr) (news : List Value), yc = .slice ya ylen ycap ∧ src.length = min ylen len ∧ news.length = src.length * s ∧ Els c.ro Pl.none src s (news[·]?) ∧
            (src.length = 0 ∨ ∃ b o, ya = some ⟨b, o, none⟩ ∧ ∀ j u, news[j]? = some u → w.cell? ⟨b, o + j, none⟩ = some u) := by
          cases yv <;> simp only [srcC] at hsrc <;> try (cases hsrc; done)
          case vs els s2 =>
            split at hsrc <;> cases hsrc
            rename_i e0
            subst e0
            obtain ⟨news, a, cap, h1, h2, h3, h4, h5⟩ := elemsOf_flat (sz := s2) (es := els) hh hy (by simp [elemsOf])
            refine ⟨els.length, cap, a, news.take ((els.take len).length * s2), h3, by simp [Nat.min_comm], ?_, els_take h2 len, ?_⟩
            · rw [List.length_take, h1]
              have : (els.take len).length * s2 ≤ els.length * s2 := Nat.mul_le_mul_right _ (by simp; omega)
              omega
            · rcases h5 with h5 | ⟨b, o, rfl, h6⟩
              · exact .inl (by simp [h5])
              · refine .inr ⟨b, o, rfl, fun j u hj => h6 j u ?_⟩
                rw [List.getElem?_take] at hj
                split at hj
                · exact hj
                · cases hj
          case sl id2 o2 l2 s2 k2 =>
            split at hsrc
            case isFalse => cases hsrc
            case isTrue e0 =>
              subst e0
              split at hsrc
              case h_2 => cases hsrc
              case h_1 es2 s3 hid2 =>
                split at hsrc <;> cases hsrc
                rename_i hc2
                obtain ⟨rfl, hle⟩ := hc2
                rcases hy.sl_inv with ⟨p, cap, o, hp, hn, hcap, ho, hto, hk, rfl⟩ | ⟨p, a, hp, hn, rfl, rfl, rfl, rfl⟩
                · have hln : ((es2.drop o2).take (min l2 len)).length = min l2 len := by simp; omega
                  obtain ⟨news, h1, h2, h3⟩ := sl_flat hh hid2 hp hn hle
                  refine ⟨l2, cap, _, news, rfl, hln, by rw [h1, hln], h2, ?_⟩
                  rcases Nat.eq_zero_or_pos (min l2 len) with h0 | h0
                  · exact .inl (by rw [hln, h0])
                  · have ho' : o = p.base + o2 * s3 := by rcases ho with h | h; exact h; omega
                    exact .inr ⟨p.block, o, rfl, fun j u hj => by rw [ho']; exact h3 j u hj⟩
                · exact ⟨0, 0, a, [], rfl, by simp, by simp, ⟨fun i h => by simp at h, fun e h => by simp at h, fun i h => by simp at h⟩, .inl (by simp)⟩
        obtain ⟨ylen, ycap, ya, news, rfl, hsl, n1, n2, n3⟩ := hread
        have hfirst : (Builtin.firstCells i.size (min ylen len) (.slice ya ylen ycap)).run P w = .ok news.toArray w := by
          rcases n3 with n3 | ⟨b, o, rfl, n3⟩
          · have hnn : news = [] := by have : news.length = 0 := by rw [n1, n3]; simp
                                       exact List.eq_nil_of_length_eq_zero this
            subst hnn
            rw [hsl] at n3
            cases ya with
            | none => exact run_firstCells_none w i.size _ _ _
            | some a => exact run_firstCells_some w i.size _ a _ _ [] (by simp [n3]) (fun j v h => by simp at h)
          · exact run_firstCells_some w i.size _ ⟨b, o, none⟩ _ _ news (by rw [n1, hsl, his]) (fun j v hj => by rw [Addr.add_mid]; exact n3 j v hj)
        have hsame : src.length = 0 → h.set id (.arr (es.take off ++ (src ++ es.drop (off + src.length))) s) = h := by
          intro h0
          have : src = [] := List.eq_nil_of_length_eq_zero h0
          subst this
          obtain ⟨hl, he⟩ := List.getElem?_eq_some_iff.1 hid
          have e2 : es.take off ++ ([] ++ es.drop (off + ([] : List (List V)).length)) = es := by simp
          rw [e2, ← he, List.set_getElem_self]
        rcases hx.sl_inv with ⟨p, cap, o, hp, hn, hcap, ho, hto, hk, rfl⟩ | ⟨p, a, hp, hn, rfl, rfl, rfl, rfl⟩
        · rcases Nat.eq_zero_or_pos src.length with h0 | h0
          · rw [hsame h0]
            have hnn : news = [] := List.eq_nil_of_length_eq_zero (by rw [n1, h0]; simp)
            subst hnn
            refine Ok.of_same hh (cv := .int .i64 src.length) ?_ (.int ..)
            simp [Builtin.copy_, hts, Sem.run_bind, run_underlying hu, Builtin.lenOf, Go.sizeOf, typeInfo, hi, hfirst, storeCells, goInt, hsl]
          · have ho' : o = p.base + off * s := by rcases ho with h | h; exact h; omega
            have htop := hto (by omega)
            have hfit : p.base + off * s + news.length ≤ p.top := by
              rw [n1]
              have : src.length * s ≤ cap * s := Nat.mul_le_mul_right s (by omega)
              omega
            obtain ⟨r1, r2, r3⟩ := over_ok (P := P) hh hid hp hn hoff n1 n2 hfit
            refine ⟨.int .i64 src.length, _, c, ?_, .int .., r2, r3⟩
            simp [Builtin.copy_, hts, Sem.run_bind, run_underlying hu, Builtin.lenOf, Go.sizeOf, typeInfo, hi, hfirst, ho', r1, goInt, hsl]
        · have h0 : src.length = 0 := by omega
          rw [hsame h0]
          have hnn : news = [] := List.eq_nil_of_length_eq_zero (by rw [n1, h0]; simp)
          subst hnn
          refine Ok.of_same hh (cv := .int .i64 src.length) ?_ (.int ..)
          have hfirst' := hfirst
          simp only [Nat.min_zero] at hfirst'
          cases a <;> simp [hfirst', h0, Builtin.copy_, hts, Sem.run_bind, run_underlying hu, Builtin.lenOf, Go.sizeOf, typeInfo, hi, hfirst, storeCells, goInt, hsl]

theorem run_append_grow_make {P : Program} (w : World) (t tx ty e : TypeId) (i : TypeInfo) (z : Value) (ht : P.underlying t = some (.slice e)) (hi : P.info? e = some i) (hz : i.zero = some z) {k : IntKind} (htx : P.underlying tx = some (.int k))
    (base : Option Addr) (sLen sCap : Nat) (olds : List Value) (hold : (Builtin.firstCells i.size sLen (.slice base sLen sCap)).run P w.drew = .ok olds.toArray w.drew) (n : Nat) (hw : IntKind.i64.wrap (n : Int) = n) (hn0 : n * i.size ≠ 0)
    (hb : (n : Int) * i.bytes ≤ 281474976710656)
    (hg : sCap < sLen + n) (h63 : ((sLen + n : Nat) : Int) ≤ 9223372036854775807) (hfit : Builtin.nextslicecap (sLen + n) sCap * i.bytes ≤ 281474976710656) :
    (Builtin.append_ #[t, tx] ty #[.slice base sLen sCap, .int .i64 n]).run P w =
      .ok (.slice (some ⟨w.heap.size, 0, none⟩) (sLen + n) (grownCap w (sLen + n) sCap e))
        (w.drew.alloc (.cells ((olds ++ (Builtin.zeroCells z.cells n).toList).toArray ++ Builtin.zeroCells z.cells (grownCap w (sLen + n) sCap e - (sLen + n))) e)) := by
  have hn : ¬ (sLen + n ≤ sCap) := by omega
  have h63' : ¬ (9223372036854775807 < ((sLen : Int) + (n : Int))) := by omega
  have h48' : ¬ (281474976710656 < Builtin.nextslicecap (sLen + n) sCap * i.bytes) := by omega
  have h0 : ¬ ((n : Int) < 0) := by omega
  have hb' : ¬ (281474976710656 < (n : Int) * i.bytes) := by omega
  have hn1 : ¬ (n = 0 ∨ i.size = 0) := by intro h; rcases h with h | h <;> simp [h] at hn0
  simp [Builtin.append_, run_underlying ht, run_underlying htx, Go.sizeOf, typeInfo, zeroValue, hi, hz, asInt, asIntOf, hw, h0, hb', hn, hn1, h63', h48', Question.forced, hold, newRow, grownCap]
  rw [if_neg hn0]
  congr 3
  apply Array.ext'
  simp [List.append_assoc]

/-- a new row, of what is ahead of the end and of new elements -/
theorem sound_appendG {P : Program} {c w h} (hh : HRel c w h) {t u ty : TypeId} {sz bytes : Nat} {z : List V} (hel : cElem P t = some (sz, z, bytes)) (hbp : 0 < bytes) {xv : V} {xc yc : Value} (hx : VRel c.ro c.m xv xc)
    {es : List (List V)} {news : List Value} (n1 : news.length = es.length * sz) (n2 : Els c.ro Pl.none es sz (news[·]?))
    (hrun : ∀ (base : Option Addr) (len cap : Nat) (olds : List Value) (e : TypeId) (i : TypeInfo) (zz : Value), P.underlying t = some (.slice e) → P.info? e = some i → i.zero = some zz → (Builtin.firstCells i.size len (.slice base len cap)).run P w.drew = .ok olds.toArray w.drew →
      len ≤ cap → cap < len + es.length → ((len + es.length : Nat) : Int) ≤ 9223372036854775807 → Builtin.nextslicecap (len + es.length) cap * i.bytes ≤ 281474976710656 → (len + es.length) * i.bytes ≤ 70368744177664 →
      (Builtin.append_ #[t, u] ty #[.slice base len cap, yc]).run P w = .ok (.slice (some ⟨w.heap.size, 0, none⟩) (len + es.length) (grownCap w (len + es.length) cap e))
        (w.drew.alloc (.cells ((olds ++ news).toArray ++ Builtin.zeroCells zz.cells (grownCap w (len + es.length) cap e - (len + es.length))) e)))
    {v h'} (hs : appendG h xv es sz bytes = some (v, h')) : Ok P c w h (Builtin.append_ #[t, u] ty #[xc, yc]) v h' := by
  obtain ⟨e, i, hut, hi, his, hib, hpos, hzl, hz⟩ := cElem_spec hel
  obtain ⟨i', zz, hi', hzz, z1, z2, z3⟩ := cZero_spec hz
  rw [hi] at hi'; cases hi'
  have hzs : zz.cells.size = sz := by omega
  unfold appendG at hs
  split at hs
  case h_2 => cases hs
  case h_1 id off len s k =>
    split at hs
    case isFalse => cases hs
    case isTrue e0 =>
      subst e0
      split at hs
      case h_2 => cases hs
      case h_1 old s' hid =>
        split at hs <;> cases hs
        rename_i hc
        obtain ⟨rfl, hle, hcap, hb⟩ := hc
        rcases hx.sl_inv with ⟨p, cap, o, hp, hn, hcl, ho, hto, hk, rfl⟩ | ⟨p, a, hp, hn, rfl, rfl, hk, rfl⟩
        · have hkc := hk k rfl
          subst hkc
          obtain ⟨olds, o1, o2, o3⟩ := sl_flat hh hid hp hn hle
          have hlen : ((old.drop off).take len).length = len := by simp; omega
          have hold : (Builtin.firstCells i.size len (.slice (some ⟨p.block, o, none⟩) len k)).run P w.drew = .ok olds.toArray w.drew := by
            rcases Nat.eq_zero_or_pos len with h0 | h0
            · have : olds = [] := List.eq_nil_of_length_eq_zero (by rw [o1, h0]; simp)
              subst this
              exact run_firstCells_some w.drew i.size len ⟨p.block, o, none⟩ len k [] (by simp [h0]) (fun j v h => by simp at h)
            · have ho' : o = p.base + off * s' := by rcases ho with h | h; exact h; omega
              exact run_firstCells_some w.drew i.size len ⟨p.block, o, none⟩ len k olds (by rw [o1, his]) (fun j v hj => by rw [Addr.add_mid, ho']; exact o3 j v hj)
          have hcap' := grownCap_ge w (len + es.length) k e
          have he' := els_append o2 (by rw [o1, hlen]) n2 n1
          obtain ⟨c', k1, k2, k3⟩ := grown_ok hh (h' := h) rfl (fun _ _ h _ => h) he' (by simp [o1, n1, hlen, Nat.add_mul]) e (Builtin.zeroCells zz.cells (grownCap w (len + es.length) k e - (len + es.length)))
          have small : len + es.length ≤ 70368744177664 := Nat.le_trans (Nat.le_mul_of_pos_right _ hbp) hb
          have hr := hrun (some ⟨p.block, o, none⟩) len k olds e i zz hut hi hzz hold hcl hcap (by omega) (growslice_fits hcap (by rw [hib]; omega)) (by rw [hib]; exact hb)
          refine ⟨_, _, c', hr, ?_, k2, k3⟩
          refine .sl _ _ _ _ _ _ 0 _ _ k1 rfl hcap' (.inl (by simp)) (fun _ => ?_) (fun x hx => by cases hx)
          simp only [zeroCells_length, List.length_append, o1, n1, hzs, Nat.zero_add, Nat.zero_mul]
          rw [← Nat.add_mul, ← Nat.add_mul]
          exact Nat.mul_le_mul_right _ (by omega)
        · cases hk

/-- in its place, over what was there -/
theorem sound_appendO {P : Program} {c w h} (hh : HRel c w h) {t u ty : TypeId} {sz bytes : Nat} {z : List V} (hel : cElem P t = some (sz, z, bytes)) (hu : ∃ e', P.underlying u = some (.slice e')) {xv yv : V} {xc yc : Value} (hx : VRel c.ro c.m xv xc) (hy : VRel c.ro c.m yv yc)
    {es : List (List V)} (he : elemsOf h sz yv = some es) {v h'} (hs : appendO h xv es sz = some (v, h')) : Ok P c w h (Builtin.append_ #[t, u] ty #[xc, yc]) v h' := by
  obtain ⟨e, i, hut, hi, his, hib, hpos, hzl, hz⟩ := cElem_spec hel
  obtain ⟨news, n1, n2, n3⟩ := src_sound (P := P) (str := false) (u := u) hh hy (by simpa [srcOf] using he) (.inr ⟨rfl, hu⟩)
  rw [← his] at n3
  unfold appendO at hs
  split at hs
  case h_2 => cases hs
  case h_1 id off len s k =>
    split at hs
    case isFalse => cases hs
    case isTrue e0 =>
      subst e0
      split at hs
      case h_2 => cases hs
      case h_1 old s' hid =>
        split at hs <;> cases hs
        rename_i hc
        obtain ⟨e2, hle, hroom⟩ := hc
        have e2 := e2.symm
        subst e2
        rcases hx.sl_inv with ⟨p, cap, o, hp, hn, hcl, ho, hto, hk, rfl⟩ | ⟨p, a, hp, hn, rfl, rfl, hk, rfl⟩
        · have hkc := hk k rfl
          subst hkc
          rcases Nat.eq_zero_or_pos k with h0 | h0
          · have hl0 : len = 0 := by omega
            have hes : es = [] := List.eq_nil_of_length_eq_zero (by omega)
            subst hes
            subst hl0
            subst h0
            have hnn : news = [] := List.eq_nil_of_length_eq_zero (by simpa using n1)
            subst hnn
            have hsm : h.set id (.arr (old.take (off + 0) ++ ([] ++ old.drop (off + 0 + ([] : List (List V)).length))) s) = h := by
              obtain ⟨hl, he⟩ := List.getElem?_eq_some_iff.1 hid
              have e2 : old.take (off + 0) ++ ([] ++ old.drop (off + 0 + ([] : List (List V)).length)) = old := by simp
              rw [e2, ← he, List.set_getElem_self]
            rw [hsm]
            exact Ok.of_same hh (run_append_nothing w t u ty e i hut hi (some ⟨p.block, o, none⟩) 0 0 (Nat.le_refl _) yc n3) (.sl _ _ _ _ _ _ o _ p hp hn (Nat.le_refl _) (.inr rfl) (fun h => by omega) hk)
          · have ho' : o = p.base + off * s := by rcases ho with h | h; exact h; omega
            have htop := hto h0
            have hpos2 : p.base + (off + len) * s = o + len * s := by rw [ho', Nat.add_mul]; omega
            have hfit : p.base + (off + len) * s + news.length ≤ p.top := by
              rw [n1]
              have e3 : (len + es.length) * s ≤ k * s := Nat.mul_le_mul_right s hroom
              rw [Nat.add_mul] at e3
              rw [Nat.add_mul]; omega
            obtain ⟨cc, e', fr, hw, g1, g2, g3, glen, gones, g4, g5⟩ := arr_cells hh hid hp hn
            obtain ⟨r1, r2, r3⟩ := over_ok (P := P) hh hid hp hn (off := off + len) (by omega) n1 n2 hfit
            have hr := run_append_room_src (P := P) w t u ty e i hut hi p.block o len k yc es.length news n3 hroom
              (fun j hj => by rw [cell_of_heap hw, Array.getElem?_eq_getElem (by rw [his]; omega)]; rfl)
              (fun j hj => frozen_of_heap hw (g5 _ (by rw [his]; omega)))
            rw [his, ← hpos2] at hr
            exact ⟨_, _, c, hr, .sl _ _ _ _ _ _ o _ p hp hn hroom ho hto hk, r2, r3⟩
        · cases hk

end Sx

/-
  Sx, part N: all operations together.
-/
namespace Sx
open Go
set_option linter.unusedSimpArgs false
set_option linter.unusedVariables false

def Does (P : Program) (c : Ctx) (w : World) (h : List O) (s : Sem Next) (v : V) (h' : List O) : Prop :=
  ∃ r w' c', s.run P w = .ok r w' ∧ ((∃ cv, r = .value cv ∧ VRel c'.ro c'.m v cv) ∨ (r = .skip ∧ v = .any)) ∧ HRel c' w' h' ∧ Adv c w h c' w' h'

theorem Ok.does {P c w h s v h'} (hk : Ok P c w h s v h') : Does P c w h (do pure (.value (← s))) v h' := by
  obtain ⟨cv, w', c', h1, h2, h3, h4⟩ := hk
  exact ⟨.value cv, w', c', by simp [Sem.run_bind, h1], .inl ⟨cv, rfl, h2⟩, h3, h4⟩

theorem does_pure {P c w h cv v} (hh : HRel c w h) (hv : VRel c.ro c.m v cv) : Does P c w h (pure (.value cv)) v h :=
  ⟨.value cv, w, c, rfl, .inl ⟨cv, rfl, hv⟩, hh, Adv.refl ..⟩

theorem cOpds2 {N : Nat} {xs : Array Operand} {l : List Opd} (h : cOpds N xs = some l) : xs.toList.length = l.length ∧ ∀ i (h : i < xs.toList.length) (h' : i < l.length), cOpd N xs.toList[i] = some l[i] := mapM_some _ _ _ h

theorem isStr_spec {P t} (h : isStr P t = true) : P.underlying t = some .string := by
  unfold isStr at h; split at h
  · assumption
  · cases h


theorem sound_lenS {P : Program} {c w h} (hh : HRel c w h) {t : TypeId} (hu : P.underlying t = some .string) {l : List UInt8} {xc : Value} (hx : VRel c.ro c.m (.str l) xc) {ts : Array TypeId} (hts : ts[0]? = some t) (ty) :
    Ok P c w h (Builtin.len_ ts ty #[xc]) (.int .i64 l.length) h := by
  rw [hx.str_inv]
  refine Ok.of_same hh (cv := .int .i64 l.length) ?_ (.int ..)
  have hsz : (ByteArray.mk l.toArray).size = l.length := by simp [ByteArray.size]
  simp [Builtin.len_, hts, Sem.run_bind, run_underlying hu, goInt, hsz]

theorem sound_lenL {P : Program} {c w h} (hh : HRel c w h) {t e : TypeId} (hu : P.underlying t = some (.slice e)) {xv : V} {xc : Value} (hx : VRel c.ro c.m xv xc) {n : Nat} (hn : (∃ es s, xv = .vs es s ∧ n = es.length) ∨ (∃ i o s k, xv = .sl i o n s k) ∨ (xv = .nils ∧ n = 0))
    {ts : Array TypeId} (hts : ts[0]? = some t) (ty) : Ok P c w h (Builtin.len_ ts ty #[xc]) (.int .i64 n) h := by
  have hc : ∃ ad cap, xc = .slice ad n cap := by
    rcases hn with ⟨es, s, rfl, rfl⟩ | ⟨i, o, s, k, rfl⟩ | ⟨rfl, rfl⟩
    · rcases hx.vs_inv with ⟨b, o, cap, cs, f, _, _, _, _, _, _, rfl⟩ | ⟨a, rfl, rfl⟩
      · exact ⟨_, _, rfl⟩
      · exact ⟨_, _, rfl⟩
    · rcases hx.sl_inv with ⟨p, cap, o', _, _, _, _, _, _, rfl⟩ | ⟨p, a, _, _, rfl, rfl, rfl, rfl⟩
      · exact ⟨_, _, rfl⟩
      · exact ⟨_, _, rfl⟩
    · exact ⟨_, _, hx.nils_inv⟩
  obtain ⟨ad, cap, rfl⟩ := hc
  exact Ok.of_same hh (cv := .int .i64 n) (by simp [Builtin.len_, hts, Sem.run_bind, run_underlying hu, goInt]) (.int ..)

theorem sound_lenM {P : Program} {c w h} (hh : HRel c w h) {t : TypeId} {q} (hk : cKey P t = some q) {id : Nat} {es : List (V × V)} (hid : h[id]? = some (.map es)) {xc : Value} (hx : VRel c.ro c.m (.mp id) xc)
    {ts : Array TypeId} (hts : ts[0]? = some t) (ty) : Ok P c w h (Builtin.len_ ts ty #[xc]) (.int .i64 es.length) h := by
  obtain ⟨κ, e⟩ := q
  obtain ⟨kt, d, hu, hd, hκ⟩ := cKey_spec hk
  obtain ⟨p, ce, cl, rfl, hp, hn, hw, hst, hl, hv⟩ := map_obj hh hid hx
  refine Ok.of_same hh (cv := .int .i64 es.length) ?_ (.int ..)
  simp [Builtin.len_, hts, Sem.run_bind, run_underlying hu, goInt, MapKept.run_getObj_map hw, Result.andThen, hl]
theorem sound_lenM0 {P : Program} {c w h} (hh : HRel c w h) {t : TypeId} {q} (hk : cKey P t = some q) {xc : Value} (hx : VRel c.ro c.m .nilm xc)
    {ts : Array TypeId} (hts : ts[0]? = some t) (ty) : Ok P c w h (Builtin.len_ ts ty #[xc]) (.int .i64 0) h := by
  obtain ⟨κ, e⟩ := q
  obtain ⟨kt, d, hu, hd, hκ⟩ := cKey_spec hk
  rw [hx.nilm_inv]
  refine Ok.of_same hh (cv := .int .i64 0) ?_ (.int ..)
  simp [Builtin.len_, hts, Sem.run_bind, run_underlying hu, goInt]
theorem sound_mdel {P : Program} {c w h} (hh : HRel c w h) {t e : TypeId} {κ : Nat} (hk : cKey P t = some (κ, e)) {id : Nat} {es : List (V × V)} (hid : h[id]? = some (.map es)) {mc : Value} (hm : VRel c.ro c.m (.mp id) mc)
    {k : V} {kc : Value} (hkc : VRel c.ro c.m k kc) {es' : List (V × V)}
    (hs : (∃ i, mFind κ k es 0 = some (some i) ∧ es' = es.eraseIdx i) ∨ (mFind κ k es 0 = some none ∧ es' = es)) {ts : Array TypeId} (hts : ts[0]? = some t) (ty) :
    Ok P c w h (Builtin.delete_ ts ty #[mc, kc]) (.tup []) (h.set id (.map es')) := by
  obtain ⟨kt, d, hu, hd, hκ⟩ := cKey_spec hk
  obtain ⟨p, ce, cl, rfl, hp, hn, hw, hst, hl, hv⟩ := map_obj hh hid hm
  have hlt : p.block < w.heap.size := (Array.getElem?_eq_some_iff.1 hw).1
  have fin : ∀ (ce' : Array MapEntry), MapKept.Stamped ce' cl → es'.length = ce'.size → (∀ i (h : i < es'.length) (h' : i < ce'.size), VRel c.ro Pl.none es'[i].1 ce'[i].key ∧ VRel c.ro c.m es'[i].2 ce'[i].val) →
      HRel c { w with heap := w.heap.setIfInBounds p.block (.map ce' cl) } (h.set id (.map es')) ∧ Adv c w h c { w with heap := w.heap.setIfInBounds p.block (.map ce' cl) } (h.set id (.map es')) := by
    intro ce' g0 g1 g2
    exact hh.change id _ (.map es') p hid trivial hp hn (by simp) (fun b hb => by simp [Ne.symm hb]) rfl rfl rfl ⟨hn, ce', cl, by simp [hlt], g0, g1, g2⟩
  have hrel : ∀ j (h : j < es.length) (h' : j < ce.toList.length), VRel c.ro Pl.none es[j].1 ce.toList[j].key := fun j a b => by
    have := (hv j a (by simpa using b)).1; simpa using this
  have hvt : VRel c.ro c.m (.tup []) (.tuple #[]) := .tup _ _ _ rfl fun i h => by simp at h
  rcases hs with ⟨i, hf, rfl⟩ | ⟨hf, rfl⟩
  · rcases mFind_run hκ hkc es ce.toList 0 (by simpa using hl) hrel hf with ⟨h1, _⟩ | ⟨j, y, h1, h2, h3, h4, h5, h6⟩
    · cases h1
    · simp at h1; subst h1
      simp only [Nat.zero_add] at h3
      have h2' : ce[i]? = some y := by simpa using h2
      have hi : i < ce.size := (Array.getElem?_eq_some_iff.1 h2').1
      have hes : es.length - 1 = ce.size - 1 := by omega
      obtain ⟨g1, g2⟩ := fin (ce.eraseIdxIfInBounds i) (MapKept.stamped_erase hst i) (by simp [Array.eraseIdxIfInBounds, hi, List.length_eraseIdx, hl]) (fun j a b => by
        have hae : ce.eraseIdxIfInBounds i = ce.eraseIdx i hi := by simp [Array.eraseIdxIfInBounds, hi]
        simp only [List.getElem_eraseIdx, hae, Array.getElem_eraseIdx]
        split
        · exact hv j _ _
        · exact hv (j + 1) _ _)
      refine ⟨_, _, c, ?_, hvt, g1, g2⟩
      simp [Builtin.delete_, hts, Sem.run_bind, run_underlying hu, MapKept.run_getObj_map hw, checkKey_run hd hκ, MapKept.run_findKey hd h3, MapKept.run_setObj_map _ hw, Result.andThen]
  · rcases mFind_run hκ hkc es' ce.toList 0 (by simpa using hl) hrel hf with ⟨_, h3⟩ | ⟨j, y, h1, _⟩
    · obtain ⟨g1, g2⟩ := fin ce hst hl hv
      refine ⟨_, _, c, ?_, hvt, g1, g2⟩
      simp [Builtin.delete_, hts, Sem.run_bind, run_underlying hu, MapKept.run_getObj_map hw, checkKey_run hd hκ, MapKept.run_findKey hd h3, MapKept.run_setObj_map _ hw, Result.andThen]
    · cases h1

theorem args1 {cs : Array Value} (h : cs.size = 1) : cs = #[cs[0]] := by
  refine Array.ext (by simp [h]) fun i h1 h2 => ?_
  have : i = 0 := by simp at h2; exact h2
  subst this; rfl

theorem args2 {cs : Array Value} (h : cs.size = 2) : cs = #[cs[0], cs[1]] := by
  refine Array.ext (by simp [h]) fun i h1 h2 => ?_
  have : i = 0 ∨ i = 1 := by simp at h2; omega
  rcases this with rfl | rfl <;> rfl

theorem cElem_und {P t r} (h : cElem P t = some r) : ∃ e, P.underlying t = some (.slice e) := by
  obtain ⟨n, z, b⟩ := r
  obtain ⟨e, i, hu, _⟩ := cElem_spec h
  exact ⟨e, hu⟩

theorem sound_clear {P : Program} {c w h} (hh : HRel c w h) {tt : TypeId} {n z bytes} (hel : cElem P tt = some (n, z, bytes)) {xv xc} (hx : VRel c.ro c.m xv xc) {v h'} (hs : clearV h z xv = some (v, h')) {ts : Array TypeId} (hts : ts[0]? = some tt) (ty : TypeId) :
    Ok P c w h (Builtin.clear_ ts ty #[xc]) v h' := by
  obtain ⟨e, i, hu, hi, his, hib, hpos, hzl, hz⟩ := cElem_spec hel
  obtain ⟨i', zz, hi', hzz, h1, h2, h3⟩ := cZero_spec hz
  rw [hi] at hi'; cases hi'
  have hzs : zz.cells.size = z.length := by omega
  cases xv <;> simp only [clearV] at hs <;> try (cases hs; done)
  case nils =>
    cases hs
    cases hx
    refine Ok.of_same hh (cv := .tuple #[]) ?_ (.any ..)
    simp [Builtin.clear_, hts, Sem.run_bind, hu, underlying]
  case sl id off len s k =>
    split at hs
    case h_2 => cases hs
    case h_1 es s' hid =>
      split at hs
      case isFalse => cases hs
      case isTrue hc =>
        obtain ⟨rfl, rfl, hle⟩ := hc
        cases hs
        have same : len = 0 → h.set id (.arr (es.take off ++ (List.replicate len z ++ es.drop (off + len))) z.length) = h := by
          rintro rfl
          have : es.take off ++ (List.replicate 0 z ++ es.drop (off + 0)) = es := by simp
          rw [this]
          obtain ⟨hl, he⟩ := List.getElem?_eq_some_iff.1 hid
          rw [← he, List.set_getElem_self]
        rcases hx.sl_inv with ⟨p, cap, o, hm, hn, hl, ho, ht, hk, rfl⟩ | ⟨p, a, hm, hn, rfl, rfl, rfl, rfl⟩
        rotate_left
        · rw [same rfl]
          refine Ok.of_same hh (cv := .tuple #[]) ?_ (.any ..)
          cases a <;> simp [Builtin.clear_, hts, Sem.run_bind, hu, underlying]
        · by_cases hlen : len = 0
          · rw [same hlen]
            subst hlen
            refine Ok.of_same hh (cv := .tuple #[]) ?_ (.any ..)
            simp [Builtin.clear_, hts, Sem.run_bind, hu, underlying]
          · have hoff : o = p.base + off * z.length := by rcases ho with h | h; exact h; omega
            obtain ⟨cc, e', fr, hw, g1, g2, g3, glen, gones, g4, g5⟩ := arr_cells hh hid hm hn
            have hels := els_zeros (h3 c.ro Pl.none) (cZero_ones hz) len
            rw [hzs] at hels
            have hzc : Builtin.zeroCells zz.cells len = (Array.range (len * z.length)).map (zz.cells[· % z.length]!) := by simp [Builtin.zeroCells, hzs]
            have hnl : (Builtin.zeroCells zz.cells len).size = len * z.length := by rw [zeroCells_length, hzs]
            have hmul : off * z.length + len * z.length ≤ es.length * z.length := by rw [← Nat.add_mul]; exact Nat.mul_le_mul_right _ hle
            have hfit : o + (Builtin.zeroCells zz.cells len).toList.length ≤ cc.size := by simp only [Array.length_toList, hnl]; omega
            have hone : ∀ u ∈ (Builtin.zeroCells zz.cells len).toList, u.oneCell' = true := by
              refine Els.one (ro := c.ro) (m := Pl.none) (es := List.replicate len z) (sz := z.length) ?_ (by simp [hnl])
              have : (fun x => (Builtin.zeroCells zz.cells len).toList[x]?) = fun x => ((Array.range (len * z.length)).map (zz.cells[· % z.length]!))[x]? := funext fun x => by rw [Array.getElem?_toList, hzc]
              rw [this]
              exact hels
            have hst := store_at (P := P) hw hfit (by rw [g1]; exact g5) hone
            obtain ⟨cc', q1, q2, q3⟩ := setCells_heap (Builtin.zeroCells zz.cells len).toList w p.block o cc e' fr hw hfit
            obtain ⟨k1, k2, k3, k4⟩ := setCells_rest (Builtin.zeroCells zz.cells len).toList w p.block o
            have hnewlen : (es.take off ++ (List.replicate len z ++ es.drop (off + len))).length = es.length := by simp; omega
            obtain ⟨r1, r2⟩ := hh.change (w' := w.setCells p.block o (Builtin.zeroCells zz.cells len).toList) id _ (.arr (es.take off ++ (List.replicate len z ++ es.drop (off + len))) z.length) p hid trivial hm hn k1 (fun b hb => setCells_other _ _ _ _ _ hb) k2 k3 k4 (by
              have hget : ∀ (i : Nat) (hi : i < (es.take off ++ (List.replicate len z ++ es.drop (off + len))).length), (es.take off ++ (List.replicate len z ++ es.drop (off + len)))[i] = if off ≤ i ∧ i < off + len then z else es[i]'(by omega) := by
                intro i hi
                rw [hnewlen] at hi
                by_cases c1 : i < off
                · rw [if_neg (by omega), List.getElem_append_left (by simp; omega)]; simp
                · by_cases c2 : i < off + len
                  · rw [if_pos (by omega), List.getElem_append_right (by simp; omega), List.getElem_append_left (by simp; omega)]; simp
                  · rw [if_neg (by omega), List.getElem_append_right (by simp; omega), List.getElem_append_right (by simp; omega), List.getElem_drop]
                    congr 1; simp; omega
              refine ⟨fun hnull => (by rw [hn] at hnull; cases hnull), ?_, ?_, fun _ => ⟨cc', ⟨hn, by omega, g2, e', fr, q1, g5⟩, by rw [hnewlen]; exact g3, ?_⟩⟩
              · intro x hx
                simp only [List.mem_append] at hx
                rcases hx with hx | hx | hx
                · exact gones x (List.mem_of_mem_take hx)
                · rw [List.eq_of_mem_replicate hx]; exact cZero_ones hz
                · exact gones x (List.mem_of_mem_drop hx)
              · intro i hi
                rw [hget i hi]
                split
                · rfl
                · exact glen _ _
              · intro i hi j hj
                have hi' : i < es.length := by rw [hnewlen] at hi; exact hi
                have hms := mul_step (s := z.length) hi'
                have hj0 : j < z.length := by
                  rw [hget i hi] at hj
                  split at hj
                  · exact hj
                  · rwa [glen] at hj
                have e2 := q3 (p.base + i * z.length + j) (by omega)
                by_cases c1 : off ≤ i ∧ i < off + len
                · have e3 : (es.take off ++ (List.replicate len z ++ es.drop (off + len)))[i][j] = z[j] := by simp only [hget i hi, if_pos c1]
                  have m1 := mul_step (s := z.length) (show i - off < len by omega)
                  have m2 : i * z.length = off * z.length + (i - off) * z.length := by rw [← Nat.add_mul]; congr 1; omega
                  rw [if_pos (by simp only [Array.length_toList, hnl]; omega)] at e2
                  obtain ⟨x, hx1, hx2⟩ := hels.rel (i - off) (by simp; omega) j (by simpa using hj0)
                  refine ⟨x, ?_, ?_⟩
                  · rw [e2, Array.getElem?_toList, hzc]
                    have : p.base + i * z.length + j - o = (i - off) * z.length + j := by omega
                    rw [this]
                    exact hx1
                  · rw [e3]; simpa using hx2
                · have e3 : (es.take off ++ (List.replicate len z ++ es.drop (off + len)))[i][j] = es[i][j]'(by rw [glen]; exact hj0) := by simp only [hget i hi, if_neg c1]
                  obtain ⟨x, hx1, hx2⟩ := g4 i hi' j (by rw [glen]; exact hj0)
                  refine ⟨x, ?_, by rw [e3]; exact hx2⟩
                  rw [e2, if_neg]
                  · exact hx1
                  · simp only [Array.length_toList, hnl]
                    rcases Nat.lt_or_ge i off with c2 | c2
                    · have := mul_step (s := z.length) c2; omega
                    · have : off + len ≤ i := by omega
                      have := Nat.mul_le_mul_right z.length this
                      rw [Nat.add_mul] at this
                      omega)
            refine ⟨.tuple #[], _, c, ?_, .any .., r1, r2⟩
            obtain ⟨len', rfl⟩ : ∃ l, len = l + 1 := ⟨len - 1, by omega⟩
            simp [Builtin.clear_, hts, Sem.run_bind, hu, underlying, zeroValue, typeInfo, hi, hzz, hst]

theorem sound_append2 {P : Program} {c w h} {t : T} (hh : HRel c w h) {tt u ty : TypeId} {sz bytes : Nat} {z : List V} {str : Bool} (hel : cElem P tt = some (sz, z, bytes)) (hbp : 0 < bytes)
    (hu : (str = true ∧ P.underlying u = some .string ∧ sz = 1) ∨ (str = false ∧ ∃ e', P.underlying u = some (.slice e')))
    {x y : Opd} {xc yc : Value} (hx : VRel c.ro c.m (x.ev t) xc) (hy : VRel c.ro c.m (y.ev t) yc) {v h'} (hs : opStep t h (.append x y sz bytes str) = some (v, h')) :
    Ok P c w h (Builtin.append_ #[tt, u] ty #[xc, yc]) v h' := by
  simp only [opStep] at hs
  generalize x.ev t = xv at *
  generalize y.ev t = yv at *
  split at hs
  · rename_i r hr
    cases hs
    exact sound_append (P := P) (ty := ty) hh hel hbp hu hx hy hr
  · split at hs
    · cases hs
    · rename_i hstr
      have hu' : ∃ e', P.underlying u = some (.slice e') := by
        rcases hu with ⟨h1, _⟩ | ⟨_, h1⟩
        · exact absurd h1 hstr
        · exact h1
      split at hs
      case h_2 => cases hs
      case h_1 es he =>
        split at hs
        · rename_i r hr
          cases hs
          obtain ⟨e, i, hut, hi, his, hib, hpos, hzl, hz⟩ := cElem_spec hel
          obtain ⟨news, n1, n2, n3⟩ := src_sound (P := P) (str := false) (u := u) hh hy (by simpa [srcOf] using he) (.inr ⟨rfl, hu'⟩)
          refine sound_appendG (P := P) (ty := ty) (u := u) hh hel hbp hx n1 n2 (fun base len cap olds e2 i2 zz g1 g2 g3 g4 g5 g6 g7 g8 g9 => ?_) hr
          rw [hut] at g1; cases g1
          rw [hi] at g2; cases g2
          rw [← his] at n3
          exact run_append_grow_src (P := P) w tt u ty e i zz hut hi g3 base len cap olds g4 yc es.length news n3 g6 g7 g8
        · exact sound_appendO (P := P) (ty := ty) hh hel hu' hx hy he hs

theorem sound_appendZ {P : Program} {c w h} {t : T} (hh : HRel c w h) {tt u ty : TypeId} {sz bytes : Nat} {z : List V} {ik : IntKind} (hel : cElem P tt = some (sz, z, bytes)) (hbp : 0 < bytes) (hu : P.underlying u = some (.int ik))
    {x y : Opd} {xc yc : Value} (hx : VRel c.ro c.m (x.ev t) xc) (hy : VRel c.ro c.m (y.ev t) yc) {v h'} (hs : opStep t h (.appendZ x y sz z bytes) = some (v, h')) :
    Ok P c w h (Builtin.append_ #[tt, u] ty #[xc, yc]) v h' := by
  simp only [opStep] at hs
  generalize x.ev t = xv at *
  generalize y.ev t = yv at *
  split at hs
  case h_2 => cases hs
  case h_1 n =>
    split at hs
    case isFalse => cases hs
    case isTrue hn =>
      obtain ⟨e, i, hut, hi, his, hib, hpos, hzl, hz⟩ := cElem_spec hel
      obtain ⟨i', zz, hi', hzz, z1, z2, z3⟩ := cZero_spec hz
      rw [hi] at hi'; cases hi'
      have hzs : zz.cells.size = sz := by omega
      have hels := els_zeros (z3 c.ro Pl.none) (cZero_ones hz) n.toNat
      rw [hzs] at hels
      have hzc : Builtin.zeroCells zz.cells n.toNat = (Array.range (n.toNat * sz)).map (zz.cells[· % sz]!) := by simp [Builtin.zeroCells, hzs]
      have hnl : (Builtin.zeroCells zz.cells n.toNat).size = n.toNat * sz := by rw [zeroCells_length, hzs]
      have hels' : Els c.ro Pl.none (List.replicate n.toNat z) sz ((Builtin.zeroCells zz.cells n.toNat).toList[·]?) := by
        have : (fun x => (Builtin.zeroCells zz.cells n.toNat).toList[x]?) = fun x => ((Array.range (n.toNat * sz)).map (zz.cells[· % sz]!))[x]? := funext fun x => by rw [Array.getElem?_toList, hzc]
        rw [this]; exact hels
      have hyc := hy.int_inv
      subst hyc
      have hnn : n = ((n.toNat : Nat) : Int) := by omega
      have hwr : IntKind.i64.wrap ((n.toNat : Nat) : Int) = ((n.toNat : Nat) : Int) := by
        have : ∀ m : Int, 0 ≤ m → m ≤ 70368744177664 → IntKind.i64.wrap m = m := by
          intro m h1 h2
          simp only [IntKind.wrap, IntKind.signed, IntKind.bits]
          simp [Int.bmod_def]; omega
        exact this _ (by omega) (by omega)
      refine sound_appendG (P := P) (ty := ty) (u := u) hh hel hbp hx (es := List.replicate n.toNat z) (news := (Builtin.zeroCells zz.cells n.toNat).toList) (by simp [hnl]) hels' (fun base len cap olds e2 i2 zz2 g1 g2 g3 g4 g5 g6 g7 g8 g9 => ?_) hs
      rw [hut] at g1; cases g1
      rw [hi] at g2; cases g2
      rw [hzz] at g3; cases g3
      simp only [List.length_replicate] at g6 g7 g8 g9 ⊢
      have hb2 : (len + n.toNat) * i.bytes ≤ 70368744177664 := g9
      rw [Nat.add_mul] at hb2
      have hb3 : (n.toNat : Int) * i.bytes ≤ 281474976710656 := by
        have h1 : ((n.toNat * i.bytes : Nat) : Int) ≤ 281474976710656 := by omega
        rwa [Int.natCast_mul] at h1
      have hne : n.toNat * i.size ≠ 0 := by
        have h1 : 0 < n.toNat := by omega
        have := Nat.mul_pos h1 (by omega : 0 < i.size)
        omega
      have := run_append_grow_make (P := P) w tt u ty e i zz hut hi hzz hu base len cap olds g4 n.toNat hwr hne hb3 g6 g7 g8
      rwa [← hnn] at this

theorem sound_builtin {P : Program} {N c t a w h} (hh : HRel c w h) (ht : TRel N c t a) {b : Builtin} {args : Array Operand} {ts : Array TypeId} {ty : TypeId} {xs : List Opd} (hxs : cOpds N args = some xs) {ao} (hc : cBuiltin P b ts xs = some ao)
    {v h'} (hs : opStep t h ao = some (v, h')) (consts : Array Bool) : Does P c w h (builtin b ts ty consts (args.map a.eval)) v h' := by
  have hr := opds_rel ht hxs
  generalize args.map a.eval = cs at *
  unfold cBuiltin at hc
  split at hc
  · rename_i x tt hts
    have hsz : cs.size = 1 := by rw [← hr.1]; rfl
    have hx := hr.2 0 (by simp) (by omega)
    rw [args1 hsz]
    generalize cs[0] = xc at *
    simp only [List.map_cons, List.getElem_cons_zero] at hx
    split at hc
    · rename_i hstr
      cases hc
      simp only [opStep] at hs
      generalize x.ev t = xv at *
      split at hs <;> cases hs
      exact (sound_lenS hh (isStr_spec hstr) hx hts ty).does
    · split at hc
      · cases hc
        rename_i hel
        obtain ⟨e, hu⟩ := cElem_und hel
        simp only [opStep] at hs
        generalize x.ev t = xv at *
        split at hs <;> cases hs
        · exact (sound_lenL hh hu hx (.inl ⟨_, _, rfl, rfl⟩) hts ty).does
        · exact (sound_lenL hh hu hx (.inr (.inl ⟨_, _, _, _, rfl⟩)) hts ty).does
        · exact (sound_lenL (n := 0) hh hu hx (.inr (.inr ⟨rfl, rfl⟩)) hts ty).does
      · split at hc <;> cases hc
        rename_i hk
        simp only [opStep] at hs
        split at hs
        case h_1 id hev =>
          rw [hev] at hx
          split at hs <;> cases hs
          rename_i hid
          exact (sound_lenM hh hk hid hx hts ty).does
        case h_2 hev =>
          rw [hev] at hx
          cases hs
          exact (sound_lenM0 hh hk hx hts ty).does
        case h_3 => cases hs
  · rename_i x y tt hts
    have hsz : cs.size = 2 := by rw [← hr.1]; rfl
    have hx := hr.2 0 (by simp) (by omega)
    have hy := hr.2 1 (by simp) (by omega)
    rw [args2 hsz]
    generalize cs[0] = xc at *
    generalize cs[1] = yc at *
    simp only [List.map_cons, List.getElem_cons_zero, List.getElem_cons_succ] at hx hy
    split at hc
    case h_2 => cases hc
    case h_1 n z bytes u hel hu =>
      split at hc
      case isTrue => cases hc
      case isFalse hb =>
        have hts' : ts = #[tt, u] ++ ts.extract 2 ts.size := by
          refine Array.ext (by have h1 := (Array.getElem?_eq_some_iff.1 hu).1; simp; omega) fun i h1 h2 => ?_
          rcases Nat.lt_or_ge i 2 with h3 | h3
          · have : i = 0 ∨ i = 1 := by omega
            rcases this with rfl | rfl
            · simpa using (Array.getElem?_eq_some_iff.1 hts).2
            · simpa using (Array.getElem?_eq_some_iff.1 hu).2
          · rw [Array.getElem_append_right (by simpa using h3)]
            simp [Array.getElem_extract]
            congr 1; omega
        have happ : ∀ (ty' : TypeId) (as : Array Value), Builtin.append_ ts ty' as = Builtin.append_ #[tt, u] ty' as := by
          intro ty' as
          unfold Builtin.append_
          have e0 : ts[0]? = (#[tt, u] : Array TypeId)[0]? := by rw [hts]; rfl
          have e1 : ts[1]? = (#[tt, u] : Array TypeId)[1]? := by rw [hu]; rfl
          simp only [e0, e1]
        have fin : ∀ str, ((str = true ∧ P.underlying u = some .string ∧ n = 1) ∨ (str = false ∧ ∃ e', P.underlying u = some (.slice e'))) → ao = .append x y n bytes str → Does P c w h (builtin .append ts ty consts #[xc, yc]) v h' := by
          rintro str hstr rfl
          have := sound_append2 (P := P) (ty := ty) hh hel (Nat.pos_of_ne_zero hb) hstr hx hy hs
          have h2 := this.does
          simp only [builtin, happ]
          exact h2
        split at hc
        · rename_i hstr
          split at hc
          case h_2 => cases hc
          case h_1 e hue =>
            split at hc <;> cases hc
            rename_i hn
            subst hn
            simp only [opStep] at hs
            split at hs
            case isFalse => cases hs
            case isTrue hok =>
              split at hs <;> cases hs
              rename_i v' h2 happ'
              have := (sound_appendB (P := P) (ty := ty) hh hel (Nat.pos_of_ne_zero hb) (isStr_spec hstr) hue hx hy hok happ').does
              simp only [builtin, happ]
              exact this
        · split at hc
          · cases hc
            rename_i e' hue
            exact fin false (.inr ⟨rfl, e', hue⟩) rfl
          · cases hc
            rename_i ik hue
            have := (sound_appendZ (P := P) (ty := ty) hh hel (Nat.pos_of_ne_zero hb) hue hx hy hs).does
            simp only [builtin, happ]
            exact this
          · cases hc
  · rename_i x y tt hts
    split at hc <;> cases hc
    rename_i nn z bb hel
    have hsz : cs.size = 2 := by rw [← hr.1]; rfl
    have hx := hr.2 0 (by simp) (by omega)
    have hy := hr.2 1 (by simp) (by omega)
    rw [args2 hsz]
    exact (sound_copy hh hel (by simpa using hx) (by simpa using hy) (by simpa [opStep] using hs) hts ty).does
  · rename_i x tt hts
    split at hc <;> cases hc
    rename_i hel
    have hsz : cs.size = 1 := by rw [← hr.1]; rfl
    have hx := hr.2 0 (by simp) (by omega)
    rw [args1 hsz]
    generalize cs[0] = xc at *
    simp only [List.map_cons, List.getElem_cons_zero] at hx
    obtain ⟨e, hu⟩ := cElem_und hel
    simp only [opStep] at hs
    split at hs <;> cases hs
    rename_i hev
    rw [hev] at hx
    exact (sound_capL hh hu hx hts ty).does
  · rename_i x tt hts
    split at hc <;> cases hc
    rename_i nn z bb hel
    have hsz : cs.size = 1 := by rw [← hr.1]; rfl
    have hx := hr.2 0 (by simp) (by omega)
    rw [args1 hsz]
    exact (sound_clear hh hel (by simpa using hx) (by simpa [opStep] using hs) hts ty).does
  · rename_i x _
    cases hc
    have hsz : cs.size = 1 := by rw [← hr.1]; rfl
    have hx := hr.2 0 (by simp) (by omega)
    rw [args1 hsz]
    generalize cs[0] = xc at *
    simp only [List.map_cons, List.getElem_cons_zero] at hx
    simp only [opStep] at hs
    split at hs
    case h_2 => cases hs
    case h_1 id off len sz k hev =>
      split at hs <;> cases hs
      rename_i hcond
      rw [hev] at hx
      exact (sound_usd hh hx hcond.1 hcond.2).does
  · rename_i x y tt hts
    have hsz : cs.size = 2 := by rw [← hr.1]; rfl
    have hx := hr.2 0 (by simp) (by omega)
    have hy := hr.2 1 (by simp) (by omega)
    rw [args2 hsz]
    generalize cs[0] = xc at *
    generalize cs[1] = yc at *
    simp only [List.map_cons, List.getElem_cons_zero, List.getElem_cons_succ] at hx hy
    split at hc
    case h_2 => cases hc
    case h_1 e hpe =>
      split at hc <;> cases hc
      rename_i hcc
      have hts2 : ts = #[tt, ts[1]'(by omega)] := by
        refine Array.ext (by simp [hcc.2]) fun i h1 h2 => ?_
        have : i = 0 ∨ i = 1 := by simp at h2; omega
        rcases this with rfl | rfl
        · simpa using (Array.getElem?_eq_some_iff.1 hts).2
        · rfl
      rw [hts2]
      simp only [opStep] at hs
      split at hs
      case h_2 => cases hs
      case h_1 id m hev hev2 =>
        split at hs
        case h_2 => cases hs
        case h_1 es hid =>
          split at hs
          case isFalse => cases hs
          case isTrue hcond =>
            split at hs <;> cases hs
            rename_i hl
            obtain ⟨a1, a2, a3, a4, a5⟩ := hcond
            rw [hev] at hx
            rw [hev2] at hy
            exact (sound_ustr hh hpe hcc.1 hx hy hid a1 a2 a3 a4 a5 hl).does
  · cases hc
    simp only [opStep] at hs
    split at hs <;> cases hs
    rename_i hm
    exact (sound_mm (P := P) (c := c) (w := w) hh false hr hm ts ty).does
  · cases hc
    simp only [opStep] at hs
    split at hs <;> cases hs
    rename_i hm
    exact (sound_mm (P := P) (c := c) (w := w) hh true hr hm ts ty).does
  · rename_i x y tt hts
    split at hc <;> cases hc
    rename_i hk
    have hsz : cs.size = 2 := by rw [← hr.1]; rfl
    have hx := hr.2 0 (by simp) (by omega)
    have hy := hr.2 1 (by simp) (by omega)
    rw [args2 hsz]
    generalize cs[0] = xc at *
    generalize cs[1] = yc at *
    simp only [List.map_cons, List.getElem_cons_zero, List.getElem_cons_succ] at hx hy
    simp only [opStep] at hs
    split at hs
    case h_2 => cases hs
    case h_1 id hev =>
      rw [hev] at hx
      split at hs
      case h_2 => cases hs
      case h_1 es hid =>
        split at hs <;> cases hs
        · rename_i i hf
          exact (sound_mdel hh hk hid hx hy (.inl ⟨i, hf, rfl⟩) hts ty).does
        · rename_i hf
          exact (sound_mdel hh hk hid hx hy (.inr ⟨hf, rfl⟩) hts ty).does
  · cases hc

theorem op_mupd {P : Program} {N c t a w h} (hh : HRel c w h) (ht : TRel N c t a) {tt : TypeId} {κ : Nat} {e : TypeId} (hk : cKey P tt = some (κ, e)) {m k x : Operand} {m' k' x' : Opd} (hm : cOpd N m = some m') (hkk : cOpd N k = some k') (hx : cOpd N x = some x')
    {v h'} (hs : opStep t h (.mupd κ m' k' x') = some (v, h')) : ∃ w', (Instr.mapUpdate tt (a.eval m) (a.eval k) (a.eval x)).run P w = .ok () w' ∧ v = .any ∧ HRel c w' h' ∧ Adv c w h c w' h' := by
  have r1 := opd_rel ht hm
  have r2 := opd_rel ht hkk
  have r3 := opd_rel ht hx
  simp only [opStep] at hs
  split at hs
  case h_2 => cases hs
  case h_1 id hev =>
    rw [hev] at r1
    split at hs
    case h_2 => cases hs
    case h_1 es hid =>
      split at hs
      · rename_i i hf
        cases hs
        obtain ⟨w', h1, h2, h3⟩ := sound_mupd (P := P) hh hk hid r1 r2 r3 (.inl ⟨i, hf, rfl⟩)
        exact ⟨w', h1, rfl, h2, h3⟩
      · rename_i hf
        split at hs <;> cases hs
        rename_i heq
        obtain ⟨w', h1, h2, h3⟩ := sound_mupd (P := P) hh hk hid r1 r2 r3 (.inr ⟨hf, heq, rfl⟩)
        exact ⟨w', h1, rfl, h2, h3⟩
      · cases hs

theorem op_sound {P : Program} {N c t a w h} (hh : HRel c w h) (ht : TRel N c t a) {o : Oper} {ao : AOp} (hc : cOp P N o.op = some ao) {v h'} (hs : opStep t h ao = some (v, h')) : Does P c w h (execOp a.eval o) v h' := by
  obtain ⟨dst, op, ty, pos, after, guard⟩ := o
  simp only at hc
  have hc0 := hc
  cases op <;> simp only [cOp] at hc <;> try (cases hc; done)
  case panic x => cases hc; simp only [opStep] at hs; cases hs
  case makeInterface ty' x => cases hc; simp only [opStep] at hs; cases hs
  case move x => split at hc <;> cases hc; rename_i hx; simp only [opStep] at hs; cases hs; exact does_pure hh (opd_rel ht hx)
  case assign x => split at hc <;> cases hc; rename_i hx; simp only [opStep] at hs; cases hs; exact does_pure hh (opd_rel ht hx)
  case pick cc x y =>
    split at hc <;> cases hc
    rename_i h1 h2 h3
    simp only [opStep] at hs
    have r1 := opd_rel ht h1
    split at hs <;> cases hs
    rename_i b hb
    rw [hb] at r1
    refine ⟨.value (if b then a.eval x else a.eval y), w, c, ?_, .inl ⟨_, rfl, ?_⟩, hh, Adv.refl ..⟩
    · simp [execOp, r1.bool_inv, asBool, Sem.run_bind]
    · cases b
      · exact opd_rel ht h3
      · exact opd_rel ht h2
  case alloc e =>
    split at hc
    case h_2 => cases hc
    case h_1 z hz =>
      split at hc <;> cases hc
      · simp only [opStep] at hs
        cases hs
        exact (sound_allocT hh e hz).does
      · simp only [opStep] at hs
        cases hs
        exact (sound_alloc hh e hz).does
  case box e x =>
    split at hc <;> cases hc
    rename_i hx
    simp only [opStep] at hs
    split at hs <;> cases hs
    rename_i hcell
    exact (sound_box hh e (opd_rel ht hx) hcell).does
  case build e parts =>
    have : ∃ z ps, ao = .build z ps := by
      split at hc
      · split at hc
        · split at hc <;> cases hc; exact ⟨_, _, rfl⟩
        · cases hc
      · split at hc
        · split at hc <;> cases hc; exact ⟨_, _, rfl⟩
        · cases hc
      · cases hc
    obtain ⟨z, ps, rfl⟩ := this
    exact (sound_build hh ht hc0 hs).does
  case buildSlice e len parts =>
    have : ∃ n z ps, ao = .bslice len n z ps := by
      split at hc
      · split at hc
        · split at hc <;> cases hc; exact ⟨_, _, _, rfl⟩
        · cases hc
      · cases hc
    obtain ⟨n, z, ps, rfl⟩ := this
    exact (sound_bslice hh ht hc0 hs).does
  case load e x =>
    split at hc <;> cases hc
    rename_i hk hx
    exact (sound_load hh ht hx hk hs).does
  case store e x y =>
    split at hc <;> cases hc
    rename_i hk hx hy
    obtain ⟨w', h1, h2, h3, h4⟩ := sound_store (P := P) hh ht hx hy hk hs
    exact ⟨.skip, w', c, by simp [execOp, Sem.run_bind, h1], .inr ⟨rfl, h2⟩, h3, h4⟩
  case binOp op tt x y yt =>
    split at hc
    case h_2 => cases hc
    case h_1 x' y' hx hy =>
      split at hc
      · cases hc
        simp only [opStep] at hs
        split at hs <;> cases hs
        rename_i hb
        exact (sound_bin hh (opd_rel ht hx) (opd_rel ht hy) hb).does
      · rename_i hsc
        split at hc
        · cases hc
          simp only [opStep] at hs
          split at hs <;> cases hs
          rename_i hb
          exact (sound_bin hh (opd_rel ht hx) (opd_rel ht hy) hb).does
        · cases hc
          simp only [opStep] at hs
          split at hs <;> cases hs
          rename_i hb
          exact (sound_bin hh (opd_rel ht hx) (opd_rel ht hy) hb).does
        · have hop : op = .eql ∨ op = .neq := by cases op <;> simp [scalarOp] at hsc <;> simp
          split at hc
          · cases hc
            rename_i k hk
            simp only [opStep] at hs
            split at hs <;> cases hs
            rename_i hb
            exact (sound_eq hh hop hk (opd_rel ht hx) (opd_rel ht hy) hb).does
          · split at hc <;> cases hc
            rename_i ks hk
            simp only [opStep] at hs
            have r1 := opd_rel ht hx
            have r2 := opd_rel ht hy
            split at hs
            case h_2 => cases hs
            case h_1 e1 e2 =>
              split at hs <;> cases hs
              rename_i hb
              rw [e1] at r1
              rw [e2] at r2
              exact (sound_eqG hh hop hk r1 r2 hb).does
  case unOp op tt x =>
    split at hc <;> cases hc
    rename_i hx
    simp only [opStep] at hs
    split at hs <;> cases hs
    rename_i hb
    exact (sound_un hh (opd_rel ht hx) hb).does
  case convert s d x =>
    split at hc
    · cases hc
      rename_i hx hs1 hs2
      simp only [opStep] at hs
      have r1 := opd_rel ht hx
      split at hs <;> cases hs
      rename_i hb
      rw [hb] at r1
      rename_i k1 k2 _ k3 n
      have : Ok P c w h (convert s d (a.eval x)) (.int k2 (k2.wrap n)) h := Ok.of_same hh (cv := .int k2 (k2.wrap n)) (by rw [r1.int_inv]; simp [convert, run_underlying hs1, run_underlying hs2, Conv.intToInt]) (.int ..)
      exact this.does
    · cases hc
      rename_i hx hs1 hs2
      simp only [opStep] at hs
      have r1 := opd_rel ht hx
      split at hs <;> cases hs
      rename_i hb
      rw [hb] at r1
      rename_i l
      have : Ok P c w h (convert s d (a.eval x)) (.str l) h := Ok.of_same hh (cv := .string ⟨l.toArray⟩) (by rw [r1.str_inv]; simp [convert, run_underlying hs1, run_underlying hs2]) (.str ..)
      exact this.does
    · split at hc <;> cases hc
      rename_i hx hs1 hs2 _ hs3
      simp only [opStep] at hs
      split at hs
      case h_2 => cases hs
      case h_1 es he =>
        split at hs <;> cases hs
        rename_i hb
        exact (sound_b2s hh hs1 hs3 hs2 (opd_rel ht hx) he hb).does
    · split at hc
      case h_2 => cases hc
      case h_1 hx hs1 hs2 _ j hj =>
        split at hc <;> cases hc
        rename_i hne
        simp only [opStep] at hs
        have r1 := opd_rel ht hx
        split at hs
        case h_2 => cases hs
        case h_1 id o hev =>
          split at hs
          case h_2 => cases hs
          case h_1 cs hid =>
            split at hs <;> cases hs
            rename_i ho
            rw [hev] at r1
            exact (sound_cvU hh hs1 hs2 hj hne r1 hid ho).does
    · split at hc
      case h_2 => cases hc
      case h_1 hx hs1 hs2 _ j hj =>
        split at hc <;> cases hc
        rename_i hlies
        simp only [opStep] at hs
        have r1 := opd_rel ht hx
        split at hs
        case h_2 => cases hs
        case h_1 id hev =>
          split at hs
          case h_2 => cases hs
          case h_1 cs hid =>
            split at hs <;> cases hs
            rename_i hty
            rw [hev] at r1
            exact (sound_cvP hh hs1 hs2 hj hlies r1 hid hty).does
    · cases hc
  case makeFunc fn first caps =>
    cases fn <;> simp only [cOp] at hc <;> try (cases hc; done)
    rename_i f
    split at hc
    case isFalse => cases hc
    case isTrue hfi =>
      split at hc <;> cases hc
      rename_i hx
      simp only [opStep] at hs
      cases hs
      have hf : first = #[] := by simpa using hfi
      subst hf
      obtain ⟨r1, r2⟩ := opds_rel ht hx
      exact ⟨.value (.func (.func f) #[] (caps.map a.eval)), w, c, by simp [execOp, Instr.makeFunc, Sem.run_bind], .inl ⟨_, rfl, .fn _ _ _ _ r1 r2⟩, hh, Adv.refl ..⟩
  case field tt x f =>
    split at hc <;> cases hc
    rename_i hf hx
    simp only [opStep] at hs
    have r1 := opd_rel ht hx
    split at hs
    case h_2 => cases hs
    case h_1 cs hcs =>
      split at hs <;> cases hs
      rename_i hb
      exact (sound_fld hh hf r1 hcs hb).does
  case fieldAddr tt x f =>
    split at hc
    case h_2 => cases hc
    case h_1 f' n b x' hf hx =>
      split at hc <;> cases hc
      rename_i hn
      exact (sound_fldA hh ht hf hn (opd_rel ht hx) hs).does
  case indexAddr tt x i =>
    have : ∃ x' i' arr sz, ao = .idxA x' i' arr sz := by
      split at hc
      · split at hc
        · split at hc <;> cases hc; exact ⟨_, _, _, _, rfl⟩
        · cases hc
      · split at hc <;> cases hc; exact ⟨_, _, _, _, rfl⟩
      · cases hc
    obtain ⟨x', i', arr, sz, rfl⟩ := this
    exact (sound_idxA hh ht hc0 hs).does
  case index tt x i =>
    have : (∃ x' i' len sz agg, ao = .idxG x' i' len sz agg) ∨ (∃ x' i', ao = .idxS x' i') := by
      split at hc
      · split at hc <;> cases hc; exact .inl ⟨_, _, _, _, _, rfl⟩
      · cases hc; exact .inr ⟨_, _, rfl⟩
      · cases hc
    rcases this with ⟨x', i', len, sz, agg, rfl⟩ | ⟨x', i', rfl⟩
    · exact (sound_idxG hh ht hc0 hs).does
    · exact (sound_idxS hh ht hc0 hs).does
  case slice tt x lo hi mx =>
    split at hc
    · rename_i x' lo' hi' hx hlo hhi hmx hu
      cases hc
      have hm : mx = none := by
        cases mx with
        | none => rfl
        | some y => simp only [cOpt] at hmx; cases hy : cOpd N y <;> simp [hy] at hmx
      subst hm
      exact (sound_slcS hh ht hu hx hlo hhi hs).does
    · rename_i x' lo' hi' mx' e hx hlo hhi hmx hu
      split at hc <;> cases hc
      rename_i hk
      exact (sound_slc hh ht hu hk hx hlo hhi hmx hs).does
    · rename_i x' lo' hi' n e hx hlo hhi hmx hu
      split at hc
      case h_2 => cases hc
      case h_1 sz b hk =>
        split at hc <;> cases hc
        have hm : mx = none := by
          cases mx with
          | none => rfl
          | some y => simp only [cOpt] at hmx; cases hy : cOpd N y <;> simp [hy] at hmx
        subst hm
        exact (sound_slcA hh ht hu hk hx hlo hhi hs).does
    · cases hc
  case extract x i =>
    split at hc <;> cases hc
    rename_i hx
    simp only [opStep] at hs
    have r1 := opd_rel ht hx
    split at hs
    case h_2 => cases hs
    case h_1 vs hvs =>
      split at hs <;> cases hs
      rename_i hi
      rw [hvs] at r1
      obtain ⟨cs, hcs, h1, h2⟩ := r1.tup_inv
      obtain ⟨hlt, rfl⟩ := List.getElem?_eq_some_iff.1 hi
      have hlt' : i < cs.size := by omega
      refine ⟨.value cs[i], w, c, ?_, .inl ⟨_, rfl, h2 i hlt hlt'⟩, hh, Adv.refl ..⟩
      simp [execOp, hcs, Instr.extract, Sem.run_bind, hlt']
  case nilCheck x =>
    split at hc <;> cases hc
    rename_i hx
    simp only [opStep] at hs
    have r1 := opd_rel ht hx
    have fin : ∀ cv, a.eval x = cv → (∃ p, cv = .pointer (some p)) ∨ (∃ f cs, cv = .func (.func f) #[] cs) → (execOp a.eval ⟨dst, .nilCheck x, ty, pos, after, guard⟩).run P w = .ok (.value cv) w := by
      rintro cv he (⟨p, rfl⟩ | ⟨f, cs, rfl⟩) <;> simp [execOp, he]
    split at hs <;> cases hs <;> rename_i hv <;> rw [hv] at r1
    · obtain ⟨p, h1, h2, h3⟩ := r1.ptr_inv
      exact ⟨_, w, c, fin _ rfl (.inl ⟨_, h3⟩), .inl ⟨_, rfl, r1⟩, hh, Adv.refl ..⟩
    · obtain ⟨p, h1, h2, h3⟩ := r1.eptr_inv
      exact ⟨_, w, c, fin _ rfl (.inl ⟨_, h3⟩), .inl ⟨_, rfl, r1⟩, hh, Adv.refl ..⟩
    · obtain ⟨b, o, cs, f, h1, h2, h3, h4⟩ := r1.rptr_inv
      exact ⟨_, w, c, fin _ rfl (.inl ⟨_, h4⟩), .inl ⟨_, rfl, r1⟩, hh, Adv.refl ..⟩
    · obtain ⟨cs, h1, h2⟩ := r1.fn_inv
      exact ⟨_, w, c, fin _ rfl (.inr ⟨_, _, h1⟩), .inl ⟨_, rfl, r1⟩, hh, Adv.refl ..⟩
  case makeSlice tt x y =>
    split at hc <;> cases hc
    exact (sound_mks hh ht hc0 hs).does
  case makeMap tt r =>
    cases r with
    | some r => simp [cOp] at hc
    | none =>
      cases hc
      simp only [opStep] at hs
      cases hs
      exact (sound_mkm hh tt).does
  case mapUpdate tt m k x =>
    split at hc <;> cases hc
    rename_i hk hm hkk hx
    obtain ⟨w', h1, h2, h3, h4⟩ := op_mupd hh ht hk hm hkk hx hs
    exact ⟨.skip, w', c, by simp [execOp, Sem.run_bind, h1], .inr ⟨rfl, h2⟩, h3, h4⟩
  case insert tt m k x =>
    split at hc <;> cases hc
    rename_i hk hm hkk hx
    obtain ⟨w', h1, h2, h3, h4⟩ := op_mupd hh ht hk hm hkk hx hs
    exact ⟨.skip, w', c, by simp [execOp, Sem.run_bind, h1], .inr ⟨rfl, h2⟩, h3, h4⟩
  case lookup tt m k ok =>
    split at hc
    case h_2 => cases hc
    case h_1 hk hm hkk =>
      split at hc <;> cases hc
      rename_i hz
      exact (sound_mget hh hk hz (opd_rel ht hm) (opd_rel ht hkk) ok hs).does
  case call cl =>
    obtain ⟨callee, args, ats⟩ := cl
    cases callee with
    | value f =>
      simp only [cOp] at hc
      split at hc
      · rename_i hne
        split at hc <;> cases hc
        rename_i x hxs
        simp only [opStep] at hs
        cases hs
        have hr := opds_rel ht hxs
        have hsz : (args.map a.eval).size = 1 := by rw [← hr.1]; rfl
        have hx := hr.2 0 (by simp) (by omega)
        simp only [List.map_cons, List.getElem_cons_zero] at hx
        have hargs := args1 hsz
        cases f with
        | func f =>
          have hrun := noEsc_run hne (args.map a.eval)[0] w
          refine ⟨.value (args.map a.eval)[0], w, c, ?_, .inl ⟨_, rfl, hx⟩, hh, Adv.refl ..⟩
          rw [← hargs] at hrun
          have hev : a.eval (.func f) = .func (.func f) #[] #[] := rfl
          simp only [execOp, resolve, Sem.run_bind, hev, Deferred.ofValue, Sem.run_pure, Result.andThen_ok, invoke]
          simpa using hrun
        | _ => simp [isNoEsc] at hne
      · split at hc <;> cases hc
        simp [opStep] at hs
    | invoke r m => simp [cOp] at hc
    | builtin b =>
      simp only [cOp] at hc
      split at hc
      case h_2 => cases hc
      case h_1 xs hxs =>
        obtain ⟨r, w', c', h1, h2⟩ := sound_builtin (P := P) (ty := ty) hh ht hxs hc hs (args.map fun | .const _ => true | _ => false)
        refine ⟨r, w', c', ?_, h2⟩
        simp only [execOp, resolve, Sem.run_bind, Sem.run_pure, Result.andThen_ok, invoke]
        exact h1

end Sx
