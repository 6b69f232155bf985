/-
  Sx, part M: the last operations; all operations together.
-/
import Derived.Test.YticecideodkcmaaSxL
import Derived.Laws.BytesString
namespace Sx
open Go
set_option linter.unusedSimpArgs false
set_option linter.unusedVariables false

theorem foldl_push : ∀ (ns : List Int) (r : ByteArray), ns.foldl (fun r n => r.push (UInt8.ofNat n.toNat)) r = ⟨r.data ++ (ns.map fun n => UInt8.ofNat n.toNat).toArray⟩
  | [], r => by simp
  | n :: ns, r => by
    simp only [List.foldl_cons]
    rw [foldl_push ns]
    simp [ByteArray.push]

theorem bytesOf_spec : ∀ {es : List (List V)} {l : List UInt8}, bytesOf es = some l → ∃ ns : List Int, es = ns.map (fun n => [.int .u8 n]) ∧ l = ns.map fun n => UInt8.ofNat n.toNat
  | [], l, h => by simp [bytesOf] at h; subst h; exact ⟨[], rfl, rfl⟩
  | [.int .u8 n] :: r, l, h => by
    simp only [bytesOf] at h
    cases hr : bytesOf r with
    | none => simp [hr] at h
    | some l' =>
      simp [hr] at h; subst h
      obtain ⟨ns, rfl, rfl⟩ := bytesOf_spec hr
      exact ⟨n :: ns, rfl, rfl⟩
  | [] :: r, l, h => by simp [bytesOf] at h
  | (_ :: _ :: _) :: r, l, h => by simp [bytesOf] at h
  | [.int .i8 _] :: r, l, h | [.int .i16 _] :: r, l, h | [.int .i32 _] :: r, l, h | [.int .i64 _] :: r, l, h | [.int .u16 _] :: r, l, h | [.int .u32 _] :: r, l, h | [.int .u64 _] :: r, l, h => by simp [bytesOf] at h
  | [.bool _] :: r, l, h | [.str _] :: r, l, h | [.nilp] :: r, l, h | [.nils] :: r, l, h | [.nilf] :: r, l, h | [.nilm] :: r, l, h | [.zs] :: r, l, h | [.ptr ..] :: r, l, h | [.eptr ..] :: r, l, h | [.rptr ..] :: r, l, h
  | [.sl ..] :: r, l, h | [.vs ..] :: r, l, h | [.mp _] :: r, l, h | [.fn ..] :: r, l, h | [.agg _] :: r, l, h | [.tup _] :: r, l, h | [.any] :: r, l, h | [.bad] :: r, l, h => by simp [bytesOf] at h

theorem sound_b2s {P : Program} {c w h} (hh : HRel c w h) {s d e : TypeId} (hs : P.underlying s = some (.slice e)) (he : P.underlying e = some (.int .u8)) (hd : P.underlying d = some .string) {xv : V} {xc : Value} (hx : VRel c.ro c.m xv xc)
    {es l} (h1 : elemsOf h 1 xv = some es) (h2 : bytesOf es = some l) : Ok P c w h (convert s d xc) (.str l) h := by
  obtain ⟨news, a, cap, n1, n2, rfl, n3, n4⟩ := elemsOf_flat hh hx h1
  obtain ⟨ns, rfl, rfl⟩ := bytesOf_spec h2
  have hnews : news = ns.map (Value.int .u8) := by
    refine List.ext_getElem (by simpa using n1) fun i a b => ?_
    have hi : i < ns.length := by simpa using b
    obtain ⟨x, hx, hv⟩ := n2.rel i (by simpa using hi) 0 (by simp)
    simp only [Nat.mul_one, Nat.add_zero, List.getElem?_eq_getElem a] at hx
    cases hx
    simp only [List.getElem_map, List.getElem_cons_zero] at hv ⊢
    exact hv.int_inv
  refine Ok.of_same hh (cv := .string ⟨(ns.map fun n => UInt8.ofNat n.toNat).toArray⟩) ?_ (.str ..)
  rw [run_convert_bytes_string w s d e a _ cap hs he hd]
  simp only [List.length_map] at n4 ⊢
  cases a with
  | none =>
    rcases n4 with h0 | ⟨b, o, hb, _⟩
    · have : ns = [] := List.eq_nil_of_length_eq_zero h0
      subst this; rfl
    · cases hb
  | some ad =>
    have hload : (loadCells ad ns.length).run P w = .ok (ns.map (Value.int .u8)).toArray w := by
      have := run_loadCells_list (P := P) w ad news (fun j v hj => by
        rcases n4 with h0 | ⟨b, o, hb, hc⟩
        · rw [hnews] at hj
          have : ns = [] := List.eq_nil_of_length_eq_zero h0
          subst this; simp at hj
        · cases hb; rw [Addr.add_mid]; exact hc j v hj)
      rw [hnews] at this
      simpa using this
    rw [run_bytesToString w ad ns.length cap ns hload, foldl_push]
    simp [ByteArray.empty, ByteArray.emptyWithCapacity]
    try rfl

theorem chunk_length (sz : Nat) : ∀ (n : Nat) (l : List V), (chunk sz n l).length = n
  | 0, _ => rfl
  | n + 1, l => by simp [chunk, chunk_length sz n]

theorem chunk_get (sz : Nat) : ∀ (n : Nat) (l : List V) (i : Nat) (h : i < (chunk sz n l).length), (chunk sz n l)[i] = (l.drop (i * sz)).take sz
  | n + 1, l, 0, _ => by simp [chunk]
  | n + 1, l, i + 1, h => by
    simp only [chunk, List.getElem_cons_succ]
    rw [chunk_get sz n (l.drop sz) i, List.drop_drop]
    congr 2; rw [Nat.succ_mul]; omega

theorem sound_slcA {P : Program} {N c t a w h} (hh : HRel c w h) (ht : TRel N c t a) {ty e : TypeId} {n sz b} (hu : P.underlying ty = some (.array n e)) (hk : cSize P e = some (sz, b)) {x : Operand} {x' : Opd} (hx : cOpd N x = some x') {lo hi : Option Operand} {lo' hi' : Option Opd} (hlo : cOpt N lo = some lo') (hhi : cOpt N hi = some hi') {v h'}
    (hs : opStep t h (.slcA x' lo' hi' n sz) = some (v, h')) : Ok P c w h (Instr.sliceAt ty (a.eval x) (lo.map a.eval) (hi.map a.eval) none) v h' := by
  have r1 := opd_rel ht hx
  simp only [opStep] at hs
  generalize x'.ev t = xv at *
  generalize a.eval x = xc at *
  split at hs
  case h_2 => cases hs
  case h_1 id =>
    split at hs
    case h_2 => cases hs
    case h_1 l r hb =>
      split at hs
      case h_2 => cases hs
      case h_1 cs hid =>
        split at hs
        case isFalse => cases hs
        case isTrue hc =>
          obtain ⟨hl, hpure, hones⟩ := hc
          cases hs
          obtain ⟨p, hp, hn, rfl⟩ := r1.ptr_inv
          obtain ⟨g1, g2, g3⟩ := run_bounds (P := P) (w := w) ht false (Nat.le_refl n) hlo hhi hb
          obtain ⟨p', cc, e', fr, hp', _, hw, h1, h2, h3, h4, h5⟩ := row_cells hh hid
          rw [hp] at hp'; cases hp'
          obtain ⟨s1, s2⟩ := hh.change (w' := w) id _ (.arr (chunk sz n cs) sz) p hid trivial hp hn rfl (fun _ _ => rfl) rfl rfl rfl (by
            refine ⟨fun h => (by rw [hn] at h; cases h), ?_, ?_, fun _ => ⟨cc, ⟨hn, h1, h2, e', fr, hw, h5⟩, by rw [chunk_length]; omega, ?_⟩⟩
            · intro x hx
              obtain ⟨i, hi, rfl⟩ := List.getElem_of_mem hx
              rw [chunk_get]; exact ones_take _ (ones_drop _ hones)
            · intro i hi
              rw [chunk_get]
              rw [chunk_length] at hi
              have := mul_step (s := sz) hi
              simp; omega
            · intro i hi j hj
              rw [chunk_length] at hi
              have hms := mul_step (s := sz) hi
              simp only [chunk_get] at hj ⊢
              have hj' : j < sz := by simp at hj; omega
              obtain ⟨x, hx, hv⟩ := h4 (i * sz + j) (by omega)
              refine ⟨x, by rw [← hx]; congr 1; omega, ?_⟩
              have := pure_rel (pures_get hpure (i * sz + j) (by omega)) hv
              simpa using this)
          refine ⟨.slice (some (if n = l then ⟨p.block, p.base + 0, none⟩ else ⟨p.block, p.base + 0 + l * sz, none⟩)) (r - l) (n - l), w, c, ?_, ?_, s1, s2⟩
          · simp [Instr.sliceAt, Sem.run_bind, run_underlying hu, Instr.sureAddr, g1, run_sizeOf' hk, Addr.add_mid]
          · by_cases hnl : n = l
            · rw [if_pos hnl]
              exact .sl _ _ _ _ _ _ _ _ p hp hn (by omega) (.inr (by omega)) (fun h => by omega) (fun x hx => by cases hx; rfl)
            · rw [if_neg hnl]
              refine .sl _ _ _ _ _ _ _ _ p hp hn (by omega) (.inl (by omega)) (fun _ => ?_) (fun x hx => by cases hx; rfl)
              have e2 : n * sz = l * sz + (n - l) * sz := by rw [← Nat.add_mul]; congr 1; omega
              omega

theorem mm_run {P : Program} {w : World} (mx : Bool) (k : IntKind) {ro m} : ∀ (vs : List V) (cs : List Value) (a : Int) {r : Int}, vs.length = cs.length → (∀ i (h : i < vs.length) (h' : i < cs.length), VRel ro m vs[i] cs[i]) → mmGo mx k a vs = some r →
    (cs.foldlM (if mx then Builtin.max2 else Builtin.min2) (Value.int k a)).run P w = .ok (.int k r) w
  | [], cs, a, r, hl, _, h => by
    have : cs = [] := List.eq_nil_of_length_eq_zero hl.symm
    subst this
    simp [mmGo] at h; subst h; rfl
  | v :: vs, [], a, r, hl, _, h => by simp at hl
  | v :: vs, cv :: cs, a, r, hl, hv, h => by
    cases v <;> simp only [mmGo] at h <;> try (cases h; done)
    rename_i k' b
    split at h
    case isFalse => cases h
    case isTrue e =>
      subst e
      have h0 := hv 0 (by simp) (by simp)
      simp only [List.getElem_cons_zero] at h0
      rw [h0.int_inv]
      have ih := mm_run (P := P) (w := w) mx k vs cs _ (by simpa using hl) (fun i a b => by
        have := hv (i + 1) (by simpa using a) (by simpa using b)
        rw [List.getElem_cons_succ, List.getElem_cons_succ] at this
        exact this) h
      cases mx
      · simp only [Bool.false_eq_true, if_false] at ih ⊢
        simp only [List.foldlM_cons, Sem.run_bind, Builtin.min2, Sem.run_pure, Result.andThen_ok]
        exact ih
      · simp only [if_true] at ih ⊢
        simp only [List.foldlM_cons, Sem.run_bind, Builtin.max2, Sem.run_pure, Result.andThen_ok]
        rw [show (if b > a then b else a) = (if a < b then b else a) from rfl]
        exact ih

theorem sound_mm {P : Program} {c w h} (hh : HRel c w h) (mx : Bool) {vs : List V} {cs : Array Value} (hr : VRels c.ro c.m vs cs) {v : V} (hs : aMM mx vs = some v) (ts ty) :
    Ok P c w h (if mx then Builtin.max_ ts ty cs else Builtin.min_ ts ty cs) v h := by
  cases vs with
  | nil => simp [aMM] at hs
  | cons v0 vs =>
    cases v0 <;> simp only [aMM] at hs <;> try (cases hs; done)
    rename_i k a
    cases hm : mmGo mx k a vs with
    | none => simp [hm] at hs
    | some r =>
      simp [hm] at hs; subst hs
      have hl := hr.1
      obtain ⟨cl⟩ := cs
      cases cl with
      | nil => simp at hl
      | cons c0 cl =>
        have h0 := hr.2 0 (by simp) (by simp)
        simp only [List.getElem_cons_zero] at h0
        have hc0 : c0 = .int k a := h0.int_inv
        subst hc0
        have := mm_run (P := P) (w := w) mx k vs cl a (by simpa using hl) (fun i a b => by
          have := hr.2 (i + 1) (by simpa using a) (by simpa using b)
          rw [List.getElem_cons_succ] at this
          exact this) hm
        refine Ok.of_same hh (cv := .int k r) ?_ (.int ..)
        cases mx
        · exact this
        · exact this

end Sx
