/-
  Sx, part L: more operations that change nothing; all operations together.
-/
import Derived.Test.YticecideodkcmaaSxK
namespace Sx
open Go
set_option linter.unusedSimpArgs false
set_option linter.unusedVariables false

theorem run_sizeOf' {P : Program} {w : World} {t n b} (h : cSize P t = some (n, b)) : (Go.sizeOf t).run P w = .ok n w := by
  obtain ⟨d, i, _, hi, his⟩ := cSize_size h
  simp [Go.sizeOf, typeInfo, hi, his]

theorem sound_idxA {P : Program} {N c t a w h} (hh : HRel c w h) (ht : TRel N c t a) {ty : TypeId} {x i : Operand} {x' i' : Opd} {arr sz} (hc : cOp P N (.indexAddr ty x i) = some (.idxA x' i' arr sz)) {v h'}
    (hs : opStep t h (.idxA x' i' arr sz) = some (v, h')) : Ok P c w h (Instr.indexAt ty (a.eval x) (a.eval i)) v h' := by
  simp only [cOp] at hc
  split at hc
  · rename_i x'' i'' len e hx hi hu
    split at hc
    case h_2 => cases hc
    case h_1 n b hk =>
      split at hc <;> cases hc
      rename_i hlen
      have r1 := opd_rel ht hx
      have r2 := opd_rel ht hi
      simp only [opStep] at hs
      generalize x'.ev t = xv at *
      generalize i'.ev t = iv at *
      generalize a.eval x = xc at *
      generalize a.eval i = ic at *
      split at hs
      case h_2 => cases hs
      case h_1 k n =>
        rw [r2.int_inv]
        split at hs
        case isFalse => cases hs
        case isTrue hb =>
          have hb' : 0 ≤ n ∧ n < (len : Int) := hb
          have htiny : ¬ len ≤ 1 := by omega
          split at hs <;> cases hs
          · obtain ⟨p, hp, hn, rfl⟩ := r1.ptr_inv
            refine Ok.of_same hh (cv := .pointer (some ⟨p.block, p.base + _ + n.toNat * sz, none⟩)) ?_ (by rw [Nat.add_assoc]; exact .ptr _ _ _ p hp hn)
            simp [Instr.indexAt, Sem.run_bind, asIntOf, run_underlying hu, Instr.sureAddr, hb', htiny, run_sizeOf' hk, Addr.add_mid]
          · obtain ⟨p, hp, hn, rfl⟩ := r1.eptr_inv
            refine Ok.of_same hh (cv := .pointer (some ⟨p.block, p.base + _ + _ + n.toNat * sz, none⟩)) ?_ (by rw [Nat.add_assoc]; exact .eptr _ _ _ _ _ p hp hn)
            simp [Instr.indexAt, Sem.run_bind, asIntOf, run_underlying hu, Instr.sureAddr, hb', htiny, run_sizeOf' hk, Addr.add_mid]
          · obtain ⟨b, o, cs, g, h1, h2, h3, rfl⟩ := r1.rptr_inv
            refine Ok.of_same hh (cv := .pointer (some ⟨b, o + _ + n.toNat * sz, none⟩)) ?_ (by rw [Nat.add_assoc]; exact .rptr _ _ _ b o cs g h1 h2 h3)
            simp [Instr.indexAt, Sem.run_bind, asIntOf, run_underlying hu, Instr.sureAddr, hb', htiny, run_sizeOf' hk, Addr.add_mid]
  · rename_i x'' i'' e hx hi hu
    split at hc
    case h_2 => cases hc
    case h_1 n b hk =>
      cases hc
      have r1 := opd_rel ht hx
      have r2 := opd_rel ht hi
      simp only [opStep] at hs
      generalize x'.ev t = xv at *
      generalize i'.ev t = iv at *
      generalize a.eval x = xc at *
      generalize a.eval i = ic at *
      split at hs
      case h_2 => cases hs
      case h_1 k n =>
        rw [r2.int_inv]
        split at hs
        · rename_i es s
          split at hs
          case isFalse => cases hs
          case isTrue hb =>
            obtain ⟨rfl, h0⟩ := hb
            split at hs <;> cases hs
            rename_i cs hcs
            obtain ⟨hlt, rfl⟩ := List.getElem?_eq_some_iff.1 hcs
            rcases r1.vs_inv with ⟨b, o, cap, ccs, f, hb, hl, hsz, hones, hcc, hvv, rfl⟩ | ⟨a, rfl, _⟩
            · have hb' : 0 ≤ n ∧ n < (es.length : Int) := by omega
              refine Ok.of_same hh (cv := .pointer (some ⟨b, o + n.toNat * s + 0, none⟩)) ?_ (.rptr _ _ _ b (o + n.toNat * s) ccs (f n.toNat) hb (fun j hj => hcc _ _ hlt (by rw [← hsz _ hlt]; exact hj)) (fun j hj => hvv _ hlt j hj))
              simp [Instr.indexAt, Sem.run_bind, asIntOf, run_underlying hu, hb', run_sizeOf' hk, Addr.add_mid]
            · simp at hlt
        · rename_i id off len s k'
          split at hs
          case isFalse => cases hs
          case isTrue hb =>
            obtain ⟨rfl, hb'⟩ := hb
            cases hs
            rcases r1.sl_inv with ⟨p, cap, o, hp, hn, hcap, ho, hto, hk', rfl⟩ | ⟨p, a, hp, hn, rfl, rfl, rfl, rfl⟩
            · have ho' : o = p.base + off * s := by rcases ho with h | h; exact h; omega
              refine Ok.of_same hh (cv := .pointer (some ⟨p.block, o + n.toNat * s, none⟩)) ?_ ?_
              · simp [Instr.indexAt, Sem.run_bind, asIntOf, run_underlying hu, hb', run_sizeOf' hk, Addr.add_mid]
              · have : o + n.toNat * s = p.base + (off + n.toNat) * s + 0 := by rw [ho', Nat.add_mul]; omega
                rw [this]; exact .eptr _ _ _ _ _ p hp hn
            · omega
        · cases hs
  · cases hc

theorem sound_idxG {P : Program} {N c t a w h} (hh : HRel c w h) (ht : TRel N c t a) {ty : TypeId} {x i : Operand} {x' i' : Opd} {len sz agg} (hc : cOp P N (.index ty x i) = some (.idxG x' i' len sz agg)) {v h'}
    (hs : opStep t h (.idxG x' i' len sz agg) = some (v, h')) : Ok P c w h (Instr.index ty (a.eval x) (a.eval i)) v h' := by
  simp only [cOp] at hc
  split at hc
  · rename_i x'' i'' len e hx hi hu
    split at hc
    case h_2 => cases hc
    case h_1 n b hk =>
      cases hc
      have r1 := opd_rel ht hx
      have r2 := opd_rel ht hi
      simp only [opStep] at hs
      generalize x'.ev t = xv at *
      generalize i'.ev t = iv at *
      generalize a.eval x = xc at *
      generalize a.eval i = ic at *
      split at hs
      case h_2 => cases hs
      case h_1 k m cs =>
        rw [r2.int_inv]
        split at hs
        case isFalse => cases hs
        case isTrue hb =>
          split at hs <;> cases hs
          rename_i hr
          obtain ⟨ccs, rfl, hrr⟩ := r1.agg_inv
          obtain ⟨cv, g1, g2⟩ := readAt_agg (P := P) (w := w) hrr hk hr
          exact Ok.of_same hh (by simp [Instr.index, Sem.run_bind, asIntOf, run_underlying hu, hb, run_sizeOf' hk, g1]) g2
  · cases hc
  · cases hc

theorem sound_idxS {P : Program} {N c t a w h} (hh : HRel c w h) (ht : TRel N c t a) {ty : TypeId} {x i : Operand} {x' i' : Opd} (hc : cOp P N (.index ty x i) = some (.idxS x' i')) {v h'}
    (hs : opStep t h (.idxS x' i') = some (v, h')) : Ok P c w h (Instr.index ty (a.eval x) (a.eval i)) v h' := by
  simp only [cOp] at hc
  split at hc
  · split at hc <;> cases hc
  · rename_i x'' i'' hx hi hu
    cases hc
    have r1 := opd_rel ht hx
    have r2 := opd_rel ht hi
    simp only [opStep] at hs
    generalize x'.ev t = xv at *
    generalize i'.ev t = iv at *
    generalize a.eval x = xc at *
    generalize a.eval i = ic at *
    split at hs
    case h_2 => cases hs
    case h_1 k m l =>
      rw [r2.int_inv]
      split at hs
      case isFalse => cases hs
      case isTrue hb =>
        split at hs <;> cases hs
        rename_i u hl
        rw [r1.str_inv]
        refine Ok.of_same hh (cv := .int .u8 u.toNat) ?_ (.int ..)
        have hget : (ByteArray.mk l.toArray)[m.toNat]? = some u := by
          obtain ⟨hlt, rfl⟩ := List.getElem?_eq_some_iff.1 hl
          have hsz : m.toNat < (ByteArray.mk l.toArray).size := by simpa [ByteArray.size] using hlt
          rw [getElem?_pos (ByteArray.mk l.toArray) m.toNat hsz]
          rfl
        simp [Instr.index, Sem.run_bind, asIntOf, run_underlying hu, hb, hget]
  · cases hc

theorem run_sliceBound {P : Program} {w : World} {k : IntKind} {n : Int} {y : Nat} (code) (h : 0 ≤ n ∧ n ≤ y) : (Instr.sliceBound (.int k n) y code).run P w = .ok n.toNat w := by
  simp [Instr.sliceBound, Sem.run_bind, asIntOf, h]

theorem run_bounds {P : Program} {N c t a} {w : World} (ht : TRel N c t a) (isSlice : Bool) {len cap : Nat} (hcap : len ≤ cap) {lo hi : Option Operand} {lo' hi' : Option Opd} (hlo : cOpt N lo = some lo') (hhi : cOpt N hi = some hi') {l r : Nat}
    (hb : bounds t len lo' hi' = some (l, r)) : (Instr.sliceBounds isSlice len cap (lo.map a.eval) (hi.map a.eval) none).run P w = .ok (l, r, cap) w ∧ l ≤ r ∧ r ≤ len := by
  unfold bounds at hb
  split at hb
  case h_1 => cases hb
  case h_2 r' hr =>
    split at hb
    case h_1 => cases hb
    case h_2 l' hl =>
      cases hb
      have h1 : (hi = none → r = len) ∧ (∀ x, hi = some x → ∀ code, (Instr.sliceBound (a.eval x) cap code).run P w = .ok r w) ∧ r ≤ len := by
        cases hi with
        | none => simp [cOpt] at hhi; subst hhi; simp [bound1] at hr; subst hr; exact ⟨fun _ => rfl, (fun x h => by cases h), Nat.le_refl _⟩
        | some x =>
          simp only [cOpt] at hhi
          cases hx : cOpd N x with
          | none => simp [hx] at hhi
          | some x' =>
            simp [hx] at hhi; subst hhi
            simp only [bound1] at hr
            have r1 := opd_rel ht hx
            generalize x'.ev t = xv at *
            split at hr
            case h_2 => cases hr
            case h_1 k n =>
              split at hr <;> cases hr
              refine ⟨(fun h => by cases h), fun y hy code => ?_, by omega⟩
              cases hy
              rw [r1.int_inv]; exact run_sliceBound _ (by omega)
      have h2 : (lo = none → l = 0) ∧ (∀ x, lo = some x → ∀ code, (Instr.sliceBound (a.eval x) r code).run P w = .ok l w) ∧ l ≤ r := by
        cases lo with
        | none => simp [cOpt] at hlo; subst hlo; simp [bound1] at hl; subst hl; exact ⟨fun _ => rfl, (fun x h => by cases h), Nat.zero_le _⟩
        | some x =>
          simp only [cOpt] at hlo
          cases hx : cOpd N x with
          | none => simp [hx] at hlo
          | some x' =>
            simp [hx] at hlo; subst hlo
            simp only [bound1] at hl
            have r1 := opd_rel ht hx
            generalize x'.ev t = xv at *
            split at hl
            case h_2 => cases hl
            case h_1 k n =>
              split at hl <;> cases hl
              refine ⟨(fun h => by cases h), fun y hy code => ?_, by omega⟩
              cases hy
              rw [r1.int_inv]; exact run_sliceBound _ (by omega)
      obtain ⟨a1, a2, a3⟩ := h1
      obtain ⟨b1, b2, b3⟩ := h2
      refine ⟨?_, b3, a3⟩
      cases hi with
      | none =>
        have e1 := a1 rfl
        subst e1
        cases lo with
        | none => have e2 := b1 rfl; subst e2; simp [Instr.sliceBounds, Sem.run_bind]
        | some y => simp [Instr.sliceBounds, Sem.run_bind, b2 y rfl]
      | some x =>
        cases lo with
        | none => have e2 := b1 rfl; subst e2; simp [Instr.sliceBounds, Sem.run_bind, a2 x rfl]
        | some y => simp [Instr.sliceBounds, Sem.run_bind, a2 x rfl, b2 y rfl]

theorem str_extract (l : List UInt8) (a b : Nat) : (ByteArray.mk l.toArray).extract a b = ⟨((l.take b).drop a).toArray⟩ := by
  apply ByteArray.ext
  simp [ByteArray.data_extract, List.drop_take]

theorem sound_slcS {P : Program} {N c t a w h} (hh : HRel c w h) (ht : TRel N c t a) {ty : TypeId} (hu : P.underlying ty = some .string) {x : Operand} {x' : Opd} (hx : cOpd N x = some x') {lo hi : Option Operand} {lo' hi' : Option Opd} (hlo : cOpt N lo = some lo') (hhi : cOpt N hi = some hi') {v h'}
    (hs : opStep t h (.slcS x' lo' hi') = some (v, h')) : Ok P c w h (Instr.sliceAt ty (a.eval x) (lo.map a.eval) (hi.map a.eval) none) v h' := by
  have r1 := opd_rel ht hx
  simp only [opStep] at hs
  generalize x'.ev t = xv at *
  generalize a.eval x = xc at *
  split at hs
  case h_2 => cases hs
  case h_1 l =>
    split at hs <;> cases hs
    rename_i p q hb
    rw [r1.str_inv]
    obtain ⟨g1, g2, g3⟩ := run_bounds (P := P) (w := w) ht false (Nat.le_refl l.length) hlo hhi hb
    refine Ok.of_same hh (cv := .string ⟨((l.take q).drop p).toArray⟩) ?_ (.str ..)
    have hsz : (ByteArray.mk l.toArray).size = l.length := by simp [ByteArray.size]
    simp [Instr.sliceAt, Instr.slice, Sem.run_bind, run_underlying hu, hsz, g1, str_extract]

theorem sound_slc {P : Program} {N c t a w h} (hh : HRel c w h) (ht : TRel N c t a) {ty e : TypeId} (hu : P.underlying ty = some (.slice e)) {n b} (hk : cSize P e = some (n, b)) {x : Operand} {x' : Opd} (hx : cOpd N x = some x') {lo hi mx : Option Operand} {lo' hi' mx' : Option Opd} (hlo : cOpt N lo = some lo') (hhi : cOpt N hi = some hi') (hmx : cOpt N mx = some mx') {v h'}
    (hs : opStep t h (.slc x' lo' hi' mx' n) = some (v, h')) : Ok P c w h (Instr.sliceAt ty (a.eval x) (lo.map a.eval) (hi.map a.eval) (mx.map a.eval)) v h' := by
  have r1 := opd_rel ht hx
  have hdef : ∀ (l m p : Option Value), Instr.sliceAt ty (a.eval x) l m p = (do match ← underlying ty with
    | .array n elem =>
      let a' ← Instr.sureAddr (a.eval x)
      let (l, h, m) ← Instr.sliceBounds false n n l m p
      let size ← Go.sizeOf elem
      pure (.slice (some (if m = l then a' else a'.add (l * size))) (h - l) (m - l))
    | _ => Instr.slice ty (a.eval x) l m p) := fun _ _ _ => rfl
  have run : ∀ (l m p : Option Value), (Instr.sliceAt ty (a.eval x) l m p).run P w = (Instr.slice ty (a.eval x) l m p).run P w := by
    intro l m p
    rw [hdef]
    simp [Sem.run_bind, run_underlying hu]
  simp only [opStep] at hs
  generalize x'.ev t = xv at *
  generalize a.eval x = xc at *
  split at hs
  · cases hs
  · have hmx' : mx = none := by
      cases mx with
      | none => rfl
      | some y => simp only [cOpt] at hmx; cases hy : cOpd N y <;> simp [hy] at hmx
    subst hmx'
    have slc : ∀ (ad : Option Addr) (len cap l r : Nat), len ≤ cap → bounds t len lo' hi' = some (l, r) → l ≤ r → r ≤ len → (Instr.sliceAt ty (.slice ad len cap) (lo.map a.eval) (hi.map a.eval) none).run P w = .ok (.slice (if cap = l then ad else ad.map (·.add (l * n))) (r - l) (cap - l)) w := by
      intro ad len cap l r hc hb _ _
      have g1 := (run_bounds (P := P) (w := w) ht true hc hlo hhi hb).1
      simp [Instr.sliceAt, Instr.slice, Sem.run_bind, run_underlying hu, g1, run_sizeOf' hk]
    have hbd : ∀ len l r, bounds t len lo' hi' = some (l, r) → l ≤ r ∧ r ≤ len := fun len l r hb => (run_bounds (P := P) (w := w) ht true (Nat.le_refl len) hlo hhi hb).2
    split at hs
    · rename_i es s
      split at hs
      case isFalse => cases hs
      case isTrue e0 =>
        subst e0
        split at hs <;> cases hs
        rename_i l r hb
        obtain ⟨q1, q2⟩ := hbd _ _ _ hb
        rcases r1.vs_inv with ⟨bl, o, cap, cs, f, hb', hl, hsz, hones, hc, hvv, rfl⟩ | ⟨ad, rfl, rfl⟩
        · refine Ok.of_same hh (slc _ _ _ _ _ hl hb q1 q2) ?_
          have hlen : ((es.take r).drop l).length = r - l := by simp; omega
          rw [← hlen]
          by_cases hcl : cap = l
          · have : (es.take r).drop l = [] := List.eq_nil_of_length_eq_zero (by omega)
            rw [this, if_pos hcl]
            have : cap - l = 0 := by omega
            rw [this]
            exact .vsnil ..
          · rw [if_neg hcl]
            simp only [Option.map_some, Addr.add_mid]
            refine .vs _ _ _ bl (o + l * s) (cap - l) cs (fun i j => f (l + i) j) hb' (by omega) (fun i hi => ?_) (fun x hx => hones x (List.mem_of_mem_take (List.mem_of_mem_drop hx))) (fun i j hi hj => ?_) (fun i hi j hj => ?_)
            · simp; exact hsz _ _
            · rw [← hc (l + i) j (by omega) hj]; congr 1; rw [Nat.add_mul]; omega
            · simp only [List.getElem_drop, List.getElem_take] at hj ⊢
              exact hvv (l + i) (by omega) j hj
        · simp at q2
          have hl0 : l = 0 := by omega
          have hr0 : r = 0 := by omega
          subst hl0; subst hr0
          refine Ok.of_same hh (slc _ _ _ _ _ (Nat.le_refl _) hb (Nat.le_refl _) (Nat.le_refl _)) ?_
          simp
          exact .vsnil ..
    · rename_i id off len s k
      split at hs
      case isFalse => cases hs
      case isTrue e0 =>
        subst e0
        split at hs <;> cases hs
        rename_i l r hb
        obtain ⟨q1, q2⟩ := hbd _ _ _ hb
        rcases r1.sl_inv with ⟨p, cap, o, hp, hn, hcap, ho, hto, hk', rfl⟩ | ⟨p, ad, hp, hn, rfl, rfl, rfl, rfl⟩
        · refine Ok.of_same hh (slc _ _ _ _ _ hcap hb q1 q2) ?_
          have hkk : ∀ x, k.map (· - l) = some x → x = cap - l := by
            intro x hx
            cases k with
            | none => simp at hx
            | some y => have := hk' y rfl; simp at hx; omega
          by_cases hcl : cap = l
          · rw [if_pos hcl]
            exact .sl _ _ _ _ _ _ o _ p hp hn (by omega) (.inr (by omega)) (fun h => by omega) hkk
          · rw [if_neg hcl]
            simp only [Option.map_some, Addr.add_mid]
            have ho' : o = p.base + off * s := by rcases ho with h | h; exact h; omega
            refine .sl _ _ _ _ _ _ (o + l * s) _ p hp hn (by omega) (.inl (by rw [ho', Nat.add_mul]; omega)) (fun _ => ?_) hkk
            have := hto (by omega)
            have e2 : cap * s = l * s + (cap - l) * s := by rw [← Nat.add_mul]; congr 1; omega
            rw [Nat.add_mul]; omega
        · have hl0 : l = 0 := by omega
          have hr0 : r = 0 := by omega
          subst hl0; subst hr0
          refine Ok.of_same hh (slc _ _ _ _ _ (Nat.le_refl _) hb (Nat.le_refl _) (Nat.le_refl _)) ?_
          simp
          exact .slnil _ _ _ p _ hp hn
    · split at hs <;> cases hs
      rename_i lr hb
      obtain ⟨l, r⟩ := lr
      obtain ⟨q1, q2⟩ := hbd _ _ _ hb
      have hl0 : l = 0 := by omega
      have hr0 : r = 0 := by omega
      subst hl0; subst hr0
      rw [r1.nils_inv] at *
      refine Ok.of_same hh (slc _ _ _ _ _ (Nat.le_refl _) hb (Nat.le_refl _) (Nat.le_refl _)) ?_
      simp
      exact .nils ..
    · cases hs

end Sx
