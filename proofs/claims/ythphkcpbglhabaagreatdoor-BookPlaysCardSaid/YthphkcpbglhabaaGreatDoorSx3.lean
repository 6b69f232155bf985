/-
  Sx: symbolic execution over abstract heaps: parts K.
-/
import Derived.Test.YthphkcpbglhabaaGreatDoorSx2
import Derived.Laws.Strings
import Derived.Laws.StructEq
import Derived.Lib.Strings
import Derived.IntWalk
import Derived.LaidEql

/-
  Sx, part K: the operations that change nothing.
-/
namespace Sx
open Go
set_option linter.unusedSimpArgs false
set_option linter.unusedVariables false

theorem mk_toList (l : List UInt8) : (ByteArray.mk l.toArray).toList = l := ByteArray.toList_mk l

theorem eqGuard_plain {P : Program} {w : World} (op : BinOp) (t : TypeId) (x y : Operand) {a b : Value} (ha : ∀ l, a ≠ .agg l) (hi : a ≠ .nilIface) : (eqGuard op t x y a b).run P w = .ok () w := by
  unfold eqGuard
  cases op <;> (first | rfl | (cases a <;> first | rfl | (exact absurd rfl hi) | (exact absurd rfl (ha _))))

theorem sound_bin {P : Program} {c w h} (hh : HRel c w h) {op : BinOp} {t : TypeId} {x y : Operand} {xv yv : V} {xc yc : Value} (hx : VRel c.ro c.m xv xc) (hy : VRel c.ro c.m yv yc) {v : V} (hs : aBin op xv yv = some v) :
    Ok P c w h (do eqGuard op t x y xc yc; binOp op t xc yc) v h := by
  unfold aBin at hs
  split at hs
  · rename_i k a k' b
    rw [hx.int_inv, hy.int_inv]
    have hg := eqGuard_plain (P := P) (w := w) op t x y (a := .int k a) (b := .int k' b) (fun l h => by cases h) (fun h => by cases h)
    split at hs
    · split at hs <;> cases hs
      refine Ok.of_same hh (cv := .int k (k.wrap (a * 2 ^ (min b.toNat k.bits)))) ?_ (.int ..)
      have hb : ¬ b < 0 := by omega
      simp [Sem.run_bind, hg, binOp, Op.shift, hb]
    · split at hs <;> cases hs
      refine Ok.of_same hh (cv := .int k (a.fdiv (2 ^ (min b.toNat k.bits)))) ?_ (.int ..)
      have hb : ¬ b < 0 := by omega
      simp [Sem.run_bind, hg, binOp, Op.shift, hb]
    · split at hs
      case isFalse => cases hs
      case isTrue e =>
        subst e
        split at hs
        · cases hs; exact Ok.of_same hh (by simp [Sem.run_bind, hg, binOp, Op.intArith]) (.int ..)
        · cases hs; exact Ok.of_same hh (by simp [Sem.run_bind, hg, binOp, Op.intArith]) (.int ..)
        · cases hs; exact Ok.of_same hh (by simp [Sem.run_bind, hg, binOp, Op.intArith]) (.int ..)
        · split at hs <;> cases hs
          rename_i hb
          exact Ok.of_same hh (by simp [Sem.run_bind, hg, binOp, Op.intDiv, hb]) (.int ..)
        · split at hs <;> cases hs
          rename_i hb
          exact Ok.of_same hh (by simp [Sem.run_bind, hg, binOp, Op.intDiv, hb]) (.int ..)
        · cases hs; exact Ok.of_same hh (by simp [Sem.run_bind, hg, binOp, Op.intBits, iAnd, iOr, iXor, iAndNot]) (.int ..)
        · cases hs; exact Ok.of_same hh (by simp [Sem.run_bind, hg, binOp, Op.intBits, iAnd, iOr, iXor, iAndNot]) (.int ..)
        · cases hs; exact Ok.of_same hh (by simp [Sem.run_bind, hg, binOp, Op.intBits, iAnd, iOr, iXor, iAndNot]) (.int ..)
        · cases hs; exact Ok.of_same hh (by simp [Sem.run_bind, hg, binOp, Op.intBits, iAnd, iOr, iXor, iAndNot]) (.int ..)
        · cases hs
          refine Ok.of_same hh (cv := .bool (a == b)) (by simp [Sem.run_bind, hg, binOp, Op.intCmp]) ?_
          rw [show (a == b) = decide (a = b) from rfl]; exact .bool ..
        · cases hs
          refine Ok.of_same hh (cv := .bool (a != b)) (by simp [Sem.run_bind, hg, binOp, Op.intCmp]) ?_
          rw [show (a != b) = (!decide (a = b)) from rfl]; exact .bool ..
        · cases hs; exact Ok.of_same hh (cv := .bool (decide (a < b))) (by simp [Sem.run_bind, hg, binOp, Op.intCmp]) (.bool ..)
        · cases hs; exact Ok.of_same hh (cv := .bool (decide (a ≤ b))) (by simp [Sem.run_bind, hg, binOp, Op.intCmp]) (.bool ..)
        · cases hs; exact Ok.of_same hh (cv := .bool (decide (b < a))) (by simp [Sem.run_bind, hg, binOp, Op.intCmp]) (.bool ..)
        · cases hs; exact Ok.of_same hh (cv := .bool (decide (b ≤ a))) (by simp [Sem.run_bind, hg, binOp, Op.intCmp]) (.bool ..)
        · cases hs
  · rename_i a b
    rw [hx.str_inv, hy.str_inv]
    have hg := eqGuard_plain (P := P) (w := w) op t x y (a := .string ⟨a.toArray⟩) (b := .string ⟨b.toArray⟩) (fun l h => by cases h) (fun h => by cases h)
    have he : ∀ (p q : List UInt8), (p == q) = decide (p = q) := fun p q => by
      by_cases h : p = q <;> simp [h]
    split at hs
    · split at hs <;> cases hs
      rename_i hl
      refine Ok.of_same hh (cv := .string ⟨(a ++ b).toArray⟩) ?_ (.str ..)
      have h2 : ¬ ((a.length : Int) + (b.length : Int) > IntKind.i64.max) := by
        have : IntKind.i64.max = 9223372036854775807 := by decide
        rw [this]; omega
      have h3 : (a.length : Int) + (b.length : Int) ≤ 9223372036854775807 := by omega
      have hsz : ∀ l : List UInt8, (ByteArray.mk l.toArray).size = l.length := fun l => by simp [ByteArray.size]
      have happ : (ByteArray.mk a.toArray) ++ (ByteArray.mk b.toArray) = ⟨(a ++ b).toArray⟩ := by
        apply ByteArray.ext; simp
      simp [Sem.run_bind, hg, binOp, Op.stringOp, hsz, h2, happ, h3]
    · cases hs
      refine Ok.of_same hh (cv := .bool (a == b)) (by simp [Sem.run_bind, hg, binOp, Op.stringOp, mk_toList]) ?_
      rw [he]; exact .bool ..
    · cases hs
      refine Ok.of_same hh (cv := .bool (!(a == b))) (by simp [Sem.run_bind, hg, binOp, Op.stringOp, mk_toList]) ?_
      rw [he]; exact .bool ..
    · cases hs; exact Ok.of_same hh (cv := .bool (Op.bytesLess a b)) (by simp [Sem.run_bind, hg, binOp, Op.stringOp, mk_toList]) (.bool ..)
    · cases hs
      refine Ok.of_same hh (cv := .bool (Op.bytesLess a b || (a == b))) (by simp [Sem.run_bind, hg, binOp, Op.stringOp, mk_toList]) ?_
      rw [he]; exact .bool ..
    · cases hs
      refine Ok.of_same hh (cv := .bool (!(Op.bytesLess a b || (a == b)))) (by simp [Sem.run_bind, hg, binOp, Op.stringOp, mk_toList]) ?_
      rw [he]; exact .bool ..
    · cases hs; exact Ok.of_same hh (cv := .bool (!Op.bytesLess a b)) (by simp [Sem.run_bind, hg, binOp, Op.stringOp, mk_toList]) (.bool ..)
    · cases hs
  · cases hs

theorem equal_gen {P : Program} {w : World} {t : TypeId} {k : Nat} (hk : cEq P t = some k) {c : Ctx} {xv yv : V} {xc yc : Value} (hx : VRel c.ro c.m xv xc) (hy : VRel c.ro c.m yv yc) {b : Bool} (hs : aEq k xv yv = some b) :
    (∀ d, (Op.equalIn (d + 1) t xc yc).run P w = .ok b w) ∧ (∀ l, xc ≠ .agg l) ∧ xc ≠ .nilIface ∧ (∀ k n, xc ≠ .int k n) ∧ (∀ s, xc ≠ .string s) ∧ (∀ k n, xc ≠ .float k n) ∧ (∀ k n m, xc ≠ .complex k n m) := by
  have hu := hk
  unfold cEq at hu
  unfold aEq at hs
  split at hs <;> try (cases hs; done)
  all_goals (split at hs <;> cases hs; rename_i hkk; first | subst hkk | (obtain ⟨hkk, hkk2, hkk3⟩ := hkk; subst hkk; subst hkk2; subst hkk3))
  all_goals (split at hu <;> try (first | (cases hu; done) | (split at hu <;> cases hu; done)))
  all_goals try rename_i hut
  · rw [hx.bool_inv, hy.bool_inv]; (refine ⟨fun d => ?_, ?_, ?_, ?_, ?_, ?_, ?_⟩ <;> simp [Op.equalIn, run_underlying hut])
  · rw [hx.nilp_inv, hy.nilp_inv]; (refine ⟨fun d => ?_, ?_, ?_, ?_, ?_, ?_, ?_⟩ <;> simp [Op.equalIn, run_underlying hut])
  · obtain ⟨e, j, hut, hj⟩ : ∃ e j, P.underlying t = some (.pointer e) ∧ P.info? e = some j := by
      split at hu
      · rename_i h; obtain ⟨j, hj⟩ := Option.isSome_iff_exists.1 h; exact ⟨_, j, hut, hj⟩
      · cases hu
    obtain ⟨p, h1, h2, rfl⟩ := hx.ptr_inv; obtain ⟨q, h3, h4, rfl⟩ := hy.ptr_inv
    rw [h1] at h3; cases h3
    refine ⟨fun d => ?_, ?_, ?_, ?_, ?_, ?_, ?_⟩ <;> simp [Op.equalIn, run_underlying hut, Go.sizeOf, typeInfo, hj, run_sameAddr_same]
  · obtain ⟨p, h1, h2, rfl⟩ := hy.ptr_inv; rw [hx.nilp_inv]; (refine ⟨fun d => ?_, ?_, ?_, ?_, ?_, ?_, ?_⟩ <;> simp [Op.equalIn, run_underlying hut])
  · obtain ⟨b', o, cs, f, h1, h2, h3, rfl⟩ := hy.rptr_inv; rw [hx.nilp_inv]; (refine ⟨fun d => ?_, ?_, ?_, ?_, ?_, ?_, ?_⟩ <;> simp [Op.equalIn, run_underlying hut])
  · obtain ⟨p, h1, h2, rfl⟩ := hx.ptr_inv; rw [hy.nilp_inv]; (refine ⟨fun d => ?_, ?_, ?_, ?_, ?_, ?_, ?_⟩ <;> simp [Op.equalIn, run_underlying hut])
  · obtain ⟨b', o, cs, f, h1, h2, h3, rfl⟩ := hx.rptr_inv; rw [hy.nilp_inv]; (refine ⟨fun d => ?_, ?_, ?_, ?_, ?_, ?_, ?_⟩ <;> simp [Op.equalIn, run_underlying hut])
  · rw [hx.nils_inv, hy.nils_inv]; (refine ⟨fun d => ?_, ?_, ?_, ?_, ?_, ?_, ?_⟩ <;> simp [Op.equalIn, run_underlying hut])
  · rcases hx.vs_inv with ⟨b', o, cap, cs, f, _, _, _, _, _, _, rfl⟩ | ⟨a, h, _⟩
    · rw [hy.nils_inv]; (refine ⟨fun d => ?_, ?_, ?_, ?_, ?_, ?_, ?_⟩ <;> simp [Op.equalIn, run_underlying hut])
    · cases h
  · rcases hy.vs_inv with ⟨b', o, cap, cs, f, _, _, _, _, _, _, rfl⟩ | ⟨a, h, _⟩
    · rw [hx.nils_inv]; (refine ⟨fun d => ?_, ?_, ?_, ?_, ?_, ?_, ?_⟩ <;> simp [Op.equalIn, run_underlying hut])
    · cases h
  · rw [hx.nilf_inv, hy.nilf_inv]; (refine ⟨fun d => ?_, ?_, ?_, ?_, ?_, ?_, ?_⟩ <;> simp [Op.equalIn, run_underlying hut])
  · obtain ⟨cs, rfl, _⟩ := hy.fn_inv; rw [hx.nilf_inv]; (refine ⟨fun d => ?_, ?_, ?_, ?_, ?_, ?_, ?_⟩ <;> simp [Op.equalIn, run_underlying hut])
  · obtain ⟨cs, rfl, _⟩ := hx.fn_inv; rw [hy.nilf_inv]; (refine ⟨fun d => ?_, ?_, ?_, ?_, ?_, ?_, ?_⟩ <;> simp [Op.equalIn, run_underlying hut])
  · rw [hx.nilm_inv, hy.nilm_inv]; (refine ⟨fun d => ?_, ?_, ?_, ?_, ?_, ?_, ?_⟩ <;> simp [Op.equalIn, run_underlying hut])
  · cases hy; rw [hx.nilm_inv]; (refine ⟨fun d => ?_, ?_, ?_, ?_, ?_, ?_, ?_⟩ <;> simp [Op.equalIn, run_underlying hut])
  · cases hx; rw [hy.nilm_inv]; (refine ⟨fun d => ?_, ?_, ?_, ?_, ?_, ?_, ?_⟩ <;> simp [Op.equalIn, run_underlying hut])

theorem equal_run {P : Program} {w : World} {t : TypeId} {k : Nat} (hk : cEq P t = some k) {c : Ctx} {xv yv : V} {xc yc : Value} (hx : VRel c.ro c.m xv xc) (hy : VRel c.ro c.m yv yc) {b : Bool} (hs : aEq k xv yv = some b) :
    (Op.equal t xc yc).run P w = .ok b w ∧ (∀ l, xc ≠ .agg l) ∧ xc ≠ .nilIface ∧ (∀ k n, xc ≠ .int k n) ∧ (∀ s, xc ≠ .string s) ∧ (∀ k n, xc ≠ .float k n) ∧ (∀ k n m, xc ≠ .complex k n m) :=
  let ⟨h1, h2⟩ := equal_gen (w := w) hk hx hy hs
  ⟨h1 9999, h2⟩

theorem sound_eq {P : Program} {c w h} (hh : HRel c w h) {op : BinOp} (hop : op = .eql ∨ op = .neq) {t : TypeId} {k : Nat} (hk : cEq P t = some k) {x y : Operand} {xv yv : V} {xc yc : Value} (hx : VRel c.ro c.m xv xc) (hy : VRel c.ro c.m yv yc) {b : Bool}
    (hs : aEq k xv yv = some b) : Ok P c w h (do eqGuard op t x y xc yc; binOp op t xc yc) (.bool (if isNeq op = true then !b else b)) h := by
  obtain ⟨h1, h2, h3, h4, h5, h6, h7⟩ := equal_run (w := w) hk hx hy hs
  have hg := eqGuard_plain (P := P) (w := w) op t x y (a := xc) (b := yc) h2 h3
  have hb : ∀ op, op = BinOp.eql ∨ op = .neq → (binOp op t xc yc).run P w = .ok (.bool (if isNeq op = true then !b else b)) w := by
    rintro op (rfl | rfl)
    · cases xc <;> cases yc <;> first
        | (exact absurd rfl (h4 _ _)) | (exact absurd rfl (h5 _)) | (exact absurd rfl (h6 _ _)) | (exact absurd rfl (h7 _ _ _))
        | (simp [binOp, Sem.run_bind, h1, isNeq]; done)
    · cases xc <;> cases yc <;> first
        | (exact absurd rfl (h4 _ _)) | (exact absurd rfl (h5 _)) | (exact absurd rfl (h6 _ _)) | (exact absurd rfl (h7 _ _ _))
        | (simp [binOp, Sem.run_bind, h1, isNeq]; done)
  exact Ok.of_same hh (by rw [Sem.run_bind, hg, Result.andThen_ok]; exact hb op hop) (.bool ..)

theorem cFlat1_spec {P : Program} {f : Field} {i k : Nat} (h : cFlat1 P (f, i) = some k) : (f.name == "_") = false ∧ f.offset = i ∧ ((k = 0 ∧ P.underlying f.type = some .bool) ∨ (k = 1 ∧ ∃ q, P.underlying f.type = some (.int q)) ∨ (k = 2 ∧ P.underlying f.type = some .string)) := by
  unfold cFlat1 at h
  split at h
  case isFalse => cases h
  case isTrue hc =>
    simp only [Bool.and_eq_true, bne_iff_ne, beq_iff_eq] at hc
    refine ⟨by simpa using hc.1, hc.2, ?_⟩
    split at h <;> cases h
    · exact .inl ⟨rfl, by assumption⟩
    · exact .inr (.inl ⟨rfl, _, by assumption⟩)
    · exact .inr (.inr ⟨rfl, by assumption⟩)

theorem eq1_run {P : Program} {w : World} {c : Ctx} (d : Nat) {t : TypeId} {k : Nat} (hk : (k = 0 ∧ P.underlying t = some .bool) ∨ (k = 1 ∧ ∃ q, P.underlying t = some (.int q)) ∨ (k = 2 ∧ P.underlying t = some .string)) {x y : V} {cx cy : Value}
    (hx : VRel c.ro c.m x cx) (hy : VRel c.ro c.m y cy) {r : Bool} (h : eq1 k x y = some r) : (Op.equalIn (d + 1) t cx cy).run P w = .ok r w := by
  unfold eq1 at h
  split at h
  · split at h <;> cases h
    rename_i e; subst e
    rw [hx.int_inv, hy.int_inv]
    rcases hk with ⟨h0, _⟩ | ⟨_, q, hu⟩ | ⟨h0, _⟩
    · omega
    · rw [run_equalIn_int w d t _ q _ _ hu]; rfl
    · omega
  · cases h
    rw [hx.bool_inv, hy.bool_inv]
    rcases hk with ⟨_, hu⟩ | ⟨h0, _⟩ | ⟨h0, _⟩
    · exact run_equalIn_bool' w d t _ _ hu
    · omega
    · omega
  · cases h
    rename_i a b
    rw [hx.str_inv, hy.str_inv]
    rcases hk with ⟨h0, _⟩ | ⟨h0, _⟩ | ⟨_, hu⟩
    · omega
    · omega
    · rw [run_equalIn_string w d t _ _ hu, mk_toList, mk_toList]
      by_cases e : a = b <;> simp [e]
  · cases h

theorem eqFields_run {P : Program} {w : World} {c : Ctx} (d : Nat) {xs ys : Array Value} : ∀ (fs : List Field) (i : Nat) (ks : List Nat) (a b : List V) {r : Bool},
    (fs.zipIdx i).mapM (cFlat1 P) = some ks →
    (∀ j (h : j < a.length), ∃ x, xs[i + j]? = some x ∧ VRel c.ro c.m a[j] x) → (∀ j (h : j < b.length), ∃ x, ys[i + j]? = some x ∧ VRel c.ro c.m b[j] x) → eqCells ks a b = some r →
    (Op.eqFields (d + 1) xs ys fs).run P w = .ok r w
  | [], i, ks, a, b, r, hk, _, _, he => by
    simp at hk; subst hk
    cases a with
    | nil => cases b with
      | nil => simp [eqCells] at he; subst he; simp [Op.eqFields]
      | cons => simp [eqCells] at he
    | cons => simp [eqCells] at he
  | f :: fs, i, ks, a, b, r, hk, ha, hb, he => by
    simp only [List.zipIdx_cons, List.mapM_cons] at hk
    cases hf : cFlat1 P (f, i) with
    | none => simp [hf] at hk
    | some k =>
      cases hks : (fs.zipIdx (i + 1)).mapM (cFlat1 P) with
      | none => simp [hf, hks] at hk
      | some ks' =>
        simp [hf, hks] at hk
        subst hk
        obtain ⟨h1, h2, h3⟩ := cFlat1_spec hf
        cases a with
        | nil => simp [eqCells] at he
        | cons x a =>
          cases b with
          | nil => simp [eqCells] at he
          | cons y b =>
            simp only [eqCells] at he
            split at he <;> cases he
            rename_i p q hp hq
            obtain ⟨cx, hcx, rx⟩ := ha 0 (by simp)
            obtain ⟨cy, hcy, ry⟩ := hb 0 (by simp)
            simp only [Nat.add_zero, List.getElem_cons_zero] at hcx hcy rx ry
            have ih := eqFields_run (P := P) (w := w) (c := c) d fs (i + 1) ks' a b hks
              (fun j hj => by have := ha (j + 1) (by simpa using hj); simpa [Nat.add_assoc, Nat.add_comm 1 j] using this)
              (fun j hj => by have := hb (j + 1) (by simpa using hj); simpa [Nat.add_assoc, Nat.add_comm 1 j] using this) hq
            have hpart : ∀ (zs : Array Value) (z : Value), zs[i]? = some z → (part f.type zs f.offset).run P w = .ok z w := by
              intro zs z hz
              have hagg : (isAgg f.type).run P w = .ok false w := by
                unfold isAgg
                rcases h3 with ⟨_, hu⟩ | ⟨_, q, hu⟩ | ⟨_, hu⟩ <;> rw [Sem.run_bind, run_underlying hu w] <;> rfl
              simp [part, Sem.run_bind, hagg, h2, hz]
            have heq := eq1_run (P := P) (w := w) (c := c) d h3 rx ry hp
            simp only [Op.eqFields]
            rw [if_pos (by simpa using h1)]
            simp only [Sem.run_bind, hpart xs cx hcx, hpart ys cy hcy, Result.andThen_ok, heq]
            cases p
            · simp
            · simpa using ih

theorem sound_eqG {P : Program} {c w h} (hh : HRel c w h) {op : BinOp} (hop : op = .eql ∨ op = .neq) {t : TypeId} {ks : List Nat} (hk : cFlat P t = some ks) {x y : Operand} {a b : List V} {xc yc : Value} (hx : VRel c.ro c.m (.agg a) xc) (hy : VRel c.ro c.m (.agg b) yc) {r : Bool}
    (hs : eqCells ks a b = some r) : Ok P c w h (do eqGuard op t x y xc yc; binOp op t xc yc) (.bool (if isNeq op = true then !r else r)) h := by
  unfold cFlat at hk
  split at hk
  case h_2 => cases hk
  case h_1 fs hu =>
    split at hk
    case isFalse => cases hk
    case isTrue hc =>
      simp only [Bool.and_eq_true, Bool.not_eq_true'] at hc
      obtain ⟨xs, rfl, x1, x2⟩ := hx.agg_inv
      obtain ⟨ys, rfl, y1, y2⟩ := hy.agg_inv
      have hf : P.fieldsOf t = fs := by simp [Program.fieldsOf, hu]
      have hu' : P.underlying t = some (.struct (P.fieldsOf t)) := by rw [hf]; exact hu
      have hrun := eqFields_run (P := P) (w := w) (c := c) 9998 (xs := xs) (ys := ys) fs.toList 0 ks a b hk
        (fun j hj => ⟨xs[j]'(by omega), by simp [show j < xs.size by omega], x2 j hj (by omega)⟩) (fun j hj => ⟨ys[j]'(by omega), by simp [show j < ys.size by omega], y2 j hj (by omega)⟩) hs
      have heq : (Op.equalIn 10000 t (.agg xs) (.agg ys)).run P w = .ok r w := by
        rw [run_equalIn_agg w 9999 t xs ys hu' hc.2, hf]; exact hrun
      refine Ok.of_same hh (cv := .bool (if isNeq op = true then !r else r)) ?_ (.bool ..)
      rw [Sem.run_bind, run_eqGuard_agg w op t x y xs ys hc.1, Result.andThen_ok]
      rcases hop with rfl | rfl
      · rw [run_eql_struct, heq]; rfl
      · rw [run_neq_struct, heq]; rfl

theorem sound_un {P : Program} {c w h} (hh : HRel c w h) {op : UnOp} {xv : V} {xc : Value} (hx : VRel c.ro c.m xv xc) {v : V} (hs : aUn op xv = some v) : Ok P c w h (Op.unary op xc) v h := by
  unfold aUn at hs
  split at hs
  · rw [hx.int_inv]
    split at hs <;> cases hs
    · exact Ok.of_same hh (by simp [Op.unary, Op.intArith]) (.int ..)
    · exact Ok.of_same hh (by simp [Op.unary, Op.intBits]) (.int ..)
  · rw [hx.bool_inv]
    split at hs <;> cases hs
    exact Ok.of_same hh (by simp [Op.unary]) (.bool ..)
  · cases hs

theorem readAt_agg {P : Program} {w : World} {ro m} {cs : List V} {ccs : Array Value} (hr : VRels ro m cs ccs) {t : TypeId} {n : Nat} {agg : Bool} (hk : cSize P t = some (n, agg)) {off : Nat} {v : V}
    (h : readAt cs off (if agg then some n else none) = some v) : ∃ cv, (part t ccs off).run P w = .ok cv w ∧ VRel ro m v cv := by
  cases agg with
  | false =>
    obtain ⟨_, d, i, hu, hd, hi, hs⟩ := cSize_one hk
    simp [readAt] at h
    obtain ⟨hlt, rfl⟩ := List.getElem?_eq_some_iff.1 h
    have hlt' : off < ccs.size := by rw [← hr.1]; exact hlt
    have hagg : (isAgg t).run P w = .ok false w := by
      unfold isAgg
      rw [Sem.run_bind, run_underlying hu w]
      cases d <;> first | rfl | (simp [TypeDesc.isRow] at hd; done)
    refine ⟨ccs[off], ?_, hr.2 off hlt hlt'⟩
    simp [part, Sem.run_bind, hagg, hlt']
  | true =>
    obtain ⟨d, i, hu, hd, hi, hs⟩ := cSize_agg hk
    simp [readAt] at h
    obtain ⟨hle, rfl⟩ := h
    have hagg : (isAgg t).run P w = .ok true w := by
      unfold isAgg
      rw [Sem.run_bind, run_underlying hu w]
      cases d <;> simp_all
    refine ⟨.agg (ccs.extract off (off + n)), ?_, ?_⟩
    · simp [part, Sem.run_bind, hagg, Go.sizeOf, typeInfo, hi, hs]
    · refine .agg _ _ _ (by have := hr.1; simp; omega) fun j a b => ?_
      have := hr.1
      simp at a b
      simpa using hr.2 (off + j) (by omega) (by omega)

theorem cField_spec {P t fi f n b} (h : cField P t fi = some (f, n, b)) : ∃ fs, P.underlying t = some (.struct fs) ∧ fs[fi]? = some f ∧ cSize P f.type = some (n, b) := by
  unfold cField at h
  split at h
  case h_2 => cases h
  case h_1 fs hu =>
    split at h
    case h_2 => cases h
    case h_1 f' hf =>
      split at h <;> cases h
      exact ⟨fs, hu, hf, by assumption⟩

theorem sound_fld {P : Program} {c w h} (hh : HRel c w h) {t fi f n agg} (hf : cField P t fi = some (f, n, agg)) {xv : V} {xc : Value} (hx : VRel c.ro c.m xv xc) {cs v} (he : xv = .agg cs) (hs : readAt cs f.offset (if agg then some n else none) = some v) :
    Ok P c w h (Instr.field t xc fi) v h := by
  obtain ⟨fs, hu, hfi, hk⟩ := cField_spec hf
  subst he
  obtain ⟨ccs, rfl, hr⟩ := hx.agg_inv
  obtain ⟨cv, h1, h2⟩ := readAt_agg (P := P) (w := w) hr hk hs
  exact Ok.of_same hh (by simp [Instr.field, Sem.run_bind, run_underlying hu, hfi, asAgg, h1]) h2

theorem sound_fldA {P : Program} {N c t a w h} (hh : HRel c w h) (_ht : TRel N c t a) {ty fi f n agg} (hf : cField P ty fi = some (f, n, agg)) (hn : 0 < n) {x : Opd} {xc : Value} (hx : VRel c.ro c.m (x.ev t) xc) {v h'} (hs : opStep t h (.fldA x f.offset) = some (v, h')) :
    Ok P c w h (Instr.fieldAt ty xc fi) v h' := by
  obtain ⟨fs, hu, hfi, hk⟩ := cField_spec hf
  obtain ⟨d, i, _, hi, his⟩ := cSize_size hk
  have hplace : ∀ (b o : Nat), (fieldPlace ⟨b, o, none⟩ f).run P w = .ok ⟨b, o + f.offset, none⟩ w := by
    intro b o
    have : ¬ i.size = 0 := by omega
    simp [fieldPlace, Sem.run_bind, Go.sizeOf, typeInfo, hi, this, Addr.add_mid]
  simp only [opStep] at hs
  generalize x.ev t = xv at *
  split at hs <;> cases hs
  · obtain ⟨p, hp, hn, rfl⟩ := hx.ptr_inv
    refine Ok.of_same hh (cv := .pointer (some ⟨p.block, p.base + _ + f.offset, none⟩)) ?_ (by rw [Nat.add_assoc]; exact .ptr _ _ _ p hp hn)
    simp [Instr.fieldAt, Sem.run_bind, run_underlying hu, hfi, Instr.sureAddr, hplace]
  · obtain ⟨p, hp, hn, rfl⟩ := hx.eptr_inv
    refine Ok.of_same hh (cv := .pointer (some ⟨p.block, p.base + _ + _ + f.offset, none⟩)) ?_ (by rw [Nat.add_assoc]; exact .eptr _ _ _ _ _ p hp hn)
    simp [Instr.fieldAt, Sem.run_bind, run_underlying hu, hfi, Instr.sureAddr, hplace]
  · obtain ⟨b, o, cs, g, h1, h2, h3, rfl⟩ := hx.rptr_inv
    refine Ok.of_same hh (cv := .pointer (some ⟨b, o + _ + f.offset, none⟩)) ?_ (by rw [Nat.add_assoc]; exact .rptr _ _ _ b o cs g h1 h2 h3)
    simp [Instr.fieldAt, Sem.run_bind, run_underlying hu, hfi, Instr.sureAddr, hplace]

end Sx
