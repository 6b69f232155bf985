/-
  Sx, part Mb: what is known of variables' types; strings.Builder's own operations.
-/
import Derived.Test.YticecideodkcmaaSxM
import Derived.Laws.Externs
import Derived.KernelRfl
import Derived.Lib.Builder
import Derived.Lib.UnsafeStr
namespace Sx
open Go

theorem any_ty {h : List O} {p : O → Bool} (ha : h.any p = true) : ∃ (i : Nat) (o : O), h[i]? = some o ∧ p o = true := by
  obtain ⟨o, ho, hp⟩ := List.any_eq_true.1 ha
  obtain ⟨i, hi⟩ := List.mem_iff_getElem?.1 ho
  exact ⟨i, o, hi, hp⟩

theorem hasTy_spec {c w h id ty} (hh : HRel c w h) (ha : hasTy h id ty = true) : ∃ q, c.m id = some q ∧ (q.null = false → q.ty = ty ∧ q.base = 0) := by
  obtain ⟨i, o, hi, hp⟩ := any_ty ha
  cases o with
  | ty j t n =>
    simp only [Bool.and_eq_true, beq_iff_eq] at hp
    obtain ⟨rfl, rfl⟩ := hp
    obtain ⟨p, _, ⟨_, q, h1, h2⟩, _⟩ := hh.obj i _ hi trivial
    exact ⟨q, h1, fun hn => ⟨(h2 hn).1, (h2 hn).2.1⟩⟩
  | _ => simp at hp

theorem hasTyN_spec {c w h id ty n} (hh : HRel c w h) (ha : hasTyN h id ty n = true) : ∃ q, c.m id = some q ∧ (q.null = false → q.ty = ty ∧ q.base = 0 ∧ q.top = n) := by
  obtain ⟨i, o, hi, hp⟩ := any_ty ha
  cases o with
  | ty j t k =>
    simp only [Bool.and_eq_true, beq_iff_eq] at hp
    obtain ⟨⟨rfl, rfl⟩, rfl⟩ := hp
    obtain ⟨p, _, ⟨_, q, h1, h2⟩, _⟩ := hh.obj i _ hi trivial
    exact ⟨q, h1, fun hn => ⟨(h2 hn).1, (h2 hn).2.1, (h2 hn).2.2 n rfl⟩⟩
  | _ => simp at hp

/-- what is known of an object may be written down -/
theorem ghost_ok {c : Ctx} {w : World} {h : List O} (hh : HRel c w h) {id : Nat} {q : Place} {ty : TypeId} {n : Option Nat} (hq : c.m id = some q) (hp : q.null = false → q.ty = ty ∧ q.base = 0 ∧ ∀ k, n = some k → q.top = k) :
    ∃ c', HRel c' w (h ++ [.ty id ty n]) ∧ Adv c w h c' w (h ++ [.ty id ty n]) := by
  obtain ⟨h1, h2⟩ := hh.move (w' := w) (h' := h) (.ty id ty n) ⟨0, 0, 0, true, 0⟩ rfl (fun _ _ h _ => h) (fun h => by cases h) (Nat.le_refl _) (fun _ _ _ => rfl) rfl rfl rfl
    (fun m' hm => ⟨rfl, q, hm _ _ hq, hp⟩)
  exact ⟨_, h1, h2⟩

theorem sound_allocT {P : Program} {c w h} (hh : HRel c w h) (e : TypeId) {l : List V} (hz : cZero P e = some l) :
    Ok P c w h (Instr.alloc e true (.tuple #[])) (.ptr h.length 0) (h ++ [.row l] ++ [.ty h.length e (some l.length)]) := by
  obtain ⟨i, z, hi, hz, h1, h2, h3⟩ := cZero_spec hz
  obtain ⟨w', c', g1, g2, g3, g4⟩ := newRow_ok (P := P) hh e z.cells (.row l) (fun m' hm w' hw => row_of_cells (h3 _ _) e _ m' hm w' hw)
  obtain ⟨c2, k1, k2⟩ := ghost_ok g3 (ty := e) (n := some l.length) g2 (fun _ => ⟨rfl, rfl, fun k hk => by cases hk; simp only; omega⟩)
  refine ⟨.pointer (some ⟨w.heap.size, 0, none⟩), w', c2, ?_, ?_, k1, g4.trans hh k2⟩
  · simp only [Instr.alloc, Sem.run_bind, run_zeroValue hi hz, Result.andThen_ok, newVar, g1]; rfl
  · exact (VRel.ptr _ _ _ ⟨w.heap.size, 0, z.cells.size, false, e⟩ (k2.m _ _ g2) rfl)

theorem shape_of_heap {w : World} {b : Nat} {cc : Array Value} {e fr} (h : w.heap[b]? = some (.cells cc e fr)) : w.shape? b = some (e, cc.size) := by
  simp [World.shape?, h]

theorem sound_cvU {P : Program} {c w h} (hh : HRel c w h) {s d t : TypeId} {j : TypeInfo} (hs : P.underlying s = some (.pointer t)) (hd : P.underlying d = some .unsafePointer) (ht : P.info? t = some j) (hj : j.size ≠ 0)
    {id o : Nat} {xc : Value} (hx : VRel c.ro c.m (.ptr id o) xc) {cs : List V} (hid : h[id]? = some (.row cs)) (ho : o < cs.length) : Ok P c w h (convert s d xc) (.ptr id o) h := by
  obtain ⟨p, cc, e, fr, h1, h2, h3, h4, h5, h6, _, _⟩ := row_cells hh hid
  obtain ⟨q, g1, g2, rfl⟩ := hx.ptr_inv
  rw [h1] at g1; cases g1
  exact Ok.of_same hh (Lib.run_to_unsafe w _ hs hd ht hj (shape_of_heap h3) (by simp only; omega)) hx

theorem sound_cvP {P : Program} {c w h} (hh : HRel c w h) {s d u : TypeId} {j : TypeInfo} (hs : P.underlying s = some .unsafePointer) (hd : P.underlying d = some (.pointer u)) (hu : P.info? u = some j)
    (hlies : liesAt P P.depth u (j.size / P.cellsOf u) 0 u 1 = true) {id : Nat} {xc : Value} (hx : VRel c.ro c.m (.ptr id 0) xc) {cs : List V} (hid : h[id]? = some (.row cs)) (hty : hasTyN h id u j.size = true) :
    Ok P c w h (convert s d xc) (.ptr id 0) h := by
  obtain ⟨p, cc, e, fr, h1, h2, h3, h4, h5, h6, _, _⟩ := row_cells hh hid
  obtain ⟨q, g1, g2, rfl⟩ := hx.ptr_inv
  rw [h1] at g1; cases g1
  obtain ⟨q, g1, g3⟩ := hasTyN_spec hh hty
  rw [h1] at g1; cases g1
  obtain ⟨k1, k2, k3⟩ := g3 h2
  have hsh := shape_of_heap h3
  rw [e.2, k1, h4, k3] at hsh
  exact Ok.of_same hh (Lib.run_from_unsafe w _ hs hd hu hsh (by simpa [k2] using hlies)) hx

theorem noEsc_run {P : Program} {f : FuncId} (h : isNoEsc P (.func f) = true) (x : Value) (w : World) : (callFunc f #[x]).run P w = .ok (.value x) w := by
  unfold isNoEsc at h
  simp only at h
  split at h
  · rename_i fn hf
    simp only [Bool.and_eq_true, beq_iff_eq] at h
    obtain ⟨⟨h1, h2⟩, h3⟩ := h
    have a1 : Extern.allNextRows.lookup "internal/abi.NoEscape" = none := by kernel_rfl
    have a2 : Extern.allNextRows.lookup "" = none := by kernel_rfl
    have a3 : Extern.allGenericRows.lookup "internal/abi.NoEscape" = none := by kernel_rfl
    have a4 : Extern.allTypedRows.lookup "internal/abi.NoEscape" = none := by kernel_rfl
    have e1 : Extern.findNext fn = none := by unfold Extern.findNext; rw [h1, h2]; simp only [a1, a2]; rfl
    have e2 : Extern.find fn = some Extern.AbiNoEscape.same := by unfold Extern.find; rw [h1]; simp only [a3, a4]; rfl
    have e3 : (fn.name == "runtime.NumGoroutine") = false := by rw [h1]; decide
    rw [run_callFunc_extern hf e3 h3 e1 e2, Lib.run_noEscape]; rfl
  · cases h

theorem sound_usd {P : Program} {c w h} (hh : HRel c w h) {ts ty} {id off len sz : Nat} {k : Option Nat} {xc : Value} (hx : VRel c.ro c.m (.sl id off len sz k) xc) (h1 : sz = 1) (h2 : 0 < len) :
    Ok P c w h (Builtin.unsafeSliceData_ ts ty #[xc]) (.ptr id off) h := by
  subst h1
  rcases hx.sl_inv with ⟨p, cap, o, hp, hn, hcap, ho, hto, hk, rfl⟩ | ⟨p, a, hp, hn, rfl, rfl, rfl, rfl⟩
  · have ho' : o = p.base + off := by rcases ho with h | h <;> omega
    subst ho'
    exact Ok.of_same hh (Lib.run_unsafeSliceData_row _ _ _ _ _ _ (by omega)) (.ptr _ _ _ p hp hn)
  · omega

theorem byteOk_spec : ∀ {es : List (List V)} {l : List UInt8}, byteOk es = true → bytesOf es = some l → es = byteEls l
  | [], l, _, h => by simp [bytesOf] at h; subst h; rfl
  | [.int .u8 n] :: r, l, h1, h2 => by
    simp only [byteOk, Bool.and_eq_true, decide_eq_true_eq] at h1
    simp only [bytesOf] at h2
    cases hr : bytesOf r with
    | none => simp [hr] at h2
    | some l' =>
      simp [hr] at h2; subst h2
      rw [byteOk_spec h1.2 hr]
      have : n = ((UInt8.ofNat n.toNat).toNat : Int) := by
        rw [UInt8.toNat_ofNat', Nat.mod_eq_of_lt (by omega)]; omega
      simp only [byteEls, List.map_cons]; rw [← this]
  | [] :: _, _, h, _ => by simp [byteOk] at h
  | (_ :: _ :: _) :: _, _, h, _ => by simp [byteOk] at h
  | [.bool _] :: _, _, h, _ => by simp [byteOk] at h
  | [.str _] :: _, _, h, _ => by simp [byteOk] at h
  | [.nilp] :: _, _, h, _ => by simp [byteOk] at h
  | [.nils] :: _, _, h, _ => by simp [byteOk] at h
  | [.nilf] :: _, _, h, _ => by simp [byteOk] at h
  | [.nilm] :: _, _, h, _ => by simp [byteOk] at h
  | [.ptr ..] :: _, _, h, _ => by simp [byteOk] at h
  | [.eptr ..] :: _, _, h, _ => by simp [byteOk] at h
  | [.rptr ..] :: _, _, h, _ => by simp [byteOk] at h
  | [.sl ..] :: _, _, h, _ => by simp [byteOk] at h
  | [.vs ..] :: _, _, h, _ => by simp [byteOk] at h
  | [.zs] :: _, _, h, _ => by simp [byteOk] at h
  | [.mp _] :: _, _, h, _ => by simp [byteOk] at h
  | [.fn ..] :: _, _, h, _ => by simp [byteOk] at h
  | [.agg _] :: _, _, h, _ => by simp [byteOk] at h
  | [.tup _] :: _, _, h, _ => by simp [byteOk] at h
  | [.any] :: _, _, h, _ => by simp [byteOk] at h
  | [.bad] :: _, _, h, _ => by simp [byteOk] at h
  | [.int .i8 _] :: _, _, h, _ | [.int .i16 _] :: _, _, h, _ | [.int .i32 _] :: _, _, h, _ | [.int .i64 _] :: _, _, h, _ | [.int .u16 _] :: _, _, h, _ | [.int .u32 _] :: _, _, h, _ | [.int .u64 _] :: _, _, h, _ => by simp [byteOk] at h

theorem freeze_heap {w : World} {b n : Nat} : ∀ k, k ≠ b → (w.freeze ⟨b, 0, none⟩ n).heap[k]? = w.heap[k]? := by
  intro k hk
  unfold World.freeze
  split
  · rfl
  · simp only [Array.getElem?_modify]; rw [if_neg (Ne.symm hk)]

theorem freeze_rest (w : World) (b n : Nat) : (w.freeze ⟨b, 0, none⟩ n).heap.size = w.heap.size ∧ (w.freeze ⟨b, 0, none⟩ n).os = w.os ∧ (w.freeze ⟨b, 0, none⟩ n).output = w.output ∧ (w.freeze ⟨b, 0, none⟩ n).tape = w.tape := by
  unfold World.freeze
  split
  · exact ⟨rfl, rfl, rfl, rfl⟩
  · exact ⟨by simp, rfl, rfl, rfl⟩

theorem byteEls_get {l : List UInt8} {i : Nat} (h : i < l.length) (h' : i < (byteEls l).length) : (byteEls l)[i] = [.int .u8 l[i].toNat] := by simp [byteEls]

theorem sound_ustr {P : Program} {c w h} (hh : HRel c w h) {pt it ty e : TypeId} (hp : P.underlying pt = some (.pointer e)) (hc : P.cellsOf e = 1) {id : Nat} {m : Int} {xc yc : Value} (hx : VRel c.ro c.m (.ptr id 0) xc) (hy : VRel c.ro c.m (.int .i64 m) yc)
    {es : List (List V)} (hid : h[id]? = some (.arr es 1)) (hty : hasTy h id e = true) (h0 : 0 < m) (h63 : m ≤ 9223372036854775807) (hm : m.toNat ≤ es.length) (hok : byteOk (es.take m.toNat) = true) {l : List UInt8} (hl : bytesOf (es.take m.toNat) = some l) :
    Ok P c w h (Builtin.unsafeString_ #[pt, it] ty #[xc, yc]) (.str l) (h.set id .gone) := by
  obtain ⟨p, h1, h2, rfl⟩ := hx.ptr_inv
  have hes := byteOk_spec hok hl
  have hlen : l.length = m.toNat := by
    have := congrArg List.length hes
    simp [byteEls] at this; omega
  obtain ⟨cc, e', fr, hw, q1, q2, q3, q4, q5, q6, q7⟩ := arr_cells hh hid h1 h2
  obtain ⟨q, g1, g2⟩ := hasTy_spec hh hty
  rw [h1] at g1; cases g1
  obtain ⟨k1, k2⟩ := g2 h2
  have hsh := shape_of_heap hw
  rw [e'.2, k1] at hsh
  have hy' : yc = .int .i64 l.length := by rw [hy.int_inv, hlen]; congr 1; omega
  have hcell : ∀ j x, l[j]? = some x → w.cell? ((⟨p.block, 0, none⟩ : Addr).add j) = some (.int .u8 x.toNat) := by
    intro j x hj
    obtain ⟨hjl, rfl⟩ := List.getElem?_eq_some_iff.1 hj
    have hj1 : j < es.length := by omega
    have e1 : es[j] = [.int .u8 l[j].toNat] := by
      have e2 : (es.take m.toNat)[j]'(by simp; omega) = (byteEls l)[j]'(by simp [byteEls]; exact hjl) := by simp only [hes]
      rw [List.getElem_take, byteEls_get hjl] at e2
      exact e2
    have hj0 : 0 < es[j].length := by rw [e1]; exact Nat.one_pos
    obtain ⟨u, hu, hv⟩ := q6 j hj1 0 hj0
    have e3 : es[j][0] = V.int .u8 l[j].toNat := by simp only [e1, List.getElem_cons_zero]
    rw [e3] at hv
    rw [hv.int_inv] at hu
    have : (⟨p.block, 0, none⟩ : Addr).add j = ⟨p.block, j, none⟩ := by rw [Addr.add_mid, Nat.zero_add]
    rw [this, cell_of_heap hw, ← hu, k2]
    congr 1; omega
  have hl0 : l ≠ [] := by intro h; rw [h] at hlen; simp at hlen; omega
  have hrun := Lib.run_unsafeString_row (P := P) (w := w) pt it ty e hp hc p.block cc.size hsh l hl0 (by omega) (by omega) hcell
  obtain ⟨r1, r2, r3, r4⟩ := freeze_rest w p.block l.length
  obtain ⟨s1, s2⟩ := hh.change (w' := w.freeze ⟨p.block, 0, none⟩ l.length) id _ .gone p hid trivial h1 h2 r1 (fun b hb => freeze_heap b hb) r2 r3 r4 trivial
  refine ⟨_, _, c, ?_, .str _ _, s1, s2⟩
  rw [hy', k2]
  exact hrun

theorem sound_appendB {P : Program} {c w h} (hh : HRel c w h) {t u ty e : TypeId} {bytes : Nat} {z : List V} (hel : cElem P t = some (1, z, bytes)) (hbp : 0 < bytes) (hu : P.underlying u = some .string) (hte : P.underlying t = some (.slice e))
    {xv yv : V} {xc yc : Value} (hx : VRel c.ro c.m xv xc) (hy : VRel c.ro c.m yv yc) (hok : okTy h e xv = true) {v h'} (hs : appendV h xv yv 1 bytes true = some (v, h')) :
    Ok P c w h (Builtin.append_ #[t, u] ty #[xc, yc]) v (h' ++ [.ty h.length e none]) := by
  obtain ⟨cv, w', c', h1, h2, h3, h4, q, e', k1, k2, k3⟩ := sound_appendX (P := P) (ty := ty) hh hel hbp (.inl ⟨rfl, hu, rfl⟩) hx hy hs
  rw [hte] at k2; cases k2
  obtain ⟨c2, g1, g2⟩ := ghost_ok h3 (ty := e) (n := none) k1 (fun hn => by
    rcases k3 hn with ⟨a, b⟩ | ⟨id, off, len, s, k, p, rfl, hp, hpn, hq1, hq2⟩
    · exact ⟨a, b, fun k hk => by cases hk⟩
    · simp only [okTy, Bool.and_eq_true, beq_iff_eq] at hok
      obtain ⟨rfl, hty⟩ := hok
      obtain ⟨q', j1, j2⟩ := hasTy_spec hh hty
      rw [hp] at j1; cases j1
      obtain ⟨j3, j4⟩ := j2 hpn
      exact ⟨by rw [hq1, j3], by rw [hq2, j4]; omega, fun k hk => by cases hk⟩)
  exact ⟨cv, w', c2, h1, h2.mono g2.ro g2.m, g1, h4.trans hh g2⟩

end Sx
