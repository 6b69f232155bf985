/-
  Sx, part N: all operations together.
-/
import Derived.Test.YticecideodkcmaaSxMb
namespace Sx
open Go
set_option linter.unusedSimpArgs false
set_option linter.unusedVariables false

def Does (P : Program) (c : Ctx) (w : World) (h : List O) (s : Sem Next) (v : V) (h' : List O) : Prop :=
  ∃ r w' c', s.run P w = .ok r w' ∧ ((∃ cv, r = .value cv ∧ VRel c'.ro c'.m v cv) ∨ (r = .skip ∧ v = .any)) ∧ HRel c' w' h' ∧ Adv c w h c' w' h'

theorem Ok.does {P c w h s v h'} (hk : Ok P c w h s v h') : Does P c w h (do pure (.value (← s))) v h' := by
  obtain ⟨cv, w', c', h1, h2, h3, h4⟩ := hk
  exact ⟨.value cv, w', c', by simp [Sem.run_bind, h1], .inl ⟨cv, rfl, h2⟩, h3, h4⟩

theorem does_pure {P c w h cv v} (hh : HRel c w h) (hv : VRel c.ro c.m v cv) : Does P c w h (pure (.value cv)) v h :=
  ⟨.value cv, w, c, rfl, .inl ⟨cv, rfl, hv⟩, hh, Adv.refl ..⟩

theorem cOpds2 {N : Nat} {xs : Array Operand} {l : List Opd} (h : cOpds N xs = some l) : xs.toList.length = l.length ∧ ∀ i (h : i < xs.toList.length) (h' : i < l.length), cOpd N xs.toList[i] = some l[i] := mapM_some _ _ _ h

theorem isStr_spec {P t} (h : isStr P t = true) : P.underlying t = some .string := by
  unfold isStr at h; split at h
  · assumption
  · cases h


theorem sound_lenS {P : Program} {c w h} (hh : HRel c w h) {t : TypeId} (hu : P.underlying t = some .string) {l : List UInt8} {xc : Value} (hx : VRel c.ro c.m (.str l) xc) {ts : Array TypeId} (hts : ts[0]? = some t) (ty) :
    Ok P c w h (Builtin.len_ ts ty #[xc]) (.int .i64 l.length) h := by
  rw [hx.str_inv]
  refine Ok.of_same hh (cv := .int .i64 l.length) ?_ (.int ..)
  have hsz : (ByteArray.mk l.toArray).size = l.length := by simp [ByteArray.size]
  simp [Builtin.len_, hts, Sem.run_bind, run_underlying hu, goInt, hsz]

theorem sound_lenL {P : Program} {c w h} (hh : HRel c w h) {t e : TypeId} (hu : P.underlying t = some (.slice e)) {xv : V} {xc : Value} (hx : VRel c.ro c.m xv xc) {n : Nat} (hn : (∃ es s, xv = .vs es s ∧ n = es.length) ∨ (∃ i o s k, xv = .sl i o n s k) ∨ (xv = .nils ∧ n = 0))
    {ts : Array TypeId} (hts : ts[0]? = some t) (ty) : Ok P c w h (Builtin.len_ ts ty #[xc]) (.int .i64 n) h := by
  have hc : ∃ ad cap, xc = .slice ad n cap := by
    rcases hn with ⟨es, s, rfl, rfl⟩ | ⟨i, o, s, k, rfl⟩ | ⟨rfl, rfl⟩
    · rcases hx.vs_inv with ⟨b, o, cap, cs, f, _, _, _, _, _, _, rfl⟩ | ⟨a, rfl, rfl⟩
      · exact ⟨_, _, rfl⟩
      · exact ⟨_, _, rfl⟩
    · rcases hx.sl_inv with ⟨p, cap, o', _, _, _, _, _, _, rfl⟩ | ⟨p, a, _, _, rfl, rfl, rfl, rfl⟩
      · exact ⟨_, _, rfl⟩
      · exact ⟨_, _, rfl⟩
    · exact ⟨_, _, hx.nils_inv⟩
  obtain ⟨ad, cap, rfl⟩ := hc
  exact Ok.of_same hh (cv := .int .i64 n) (by simp [Builtin.len_, hts, Sem.run_bind, run_underlying hu, goInt]) (.int ..)

theorem args1 {cs : Array Value} (h : cs.size = 1) : cs = #[cs[0]] := by
  refine Array.ext (by simp [h]) fun i h1 h2 => ?_
  have : i = 0 := by simp at h2; exact h2
  subst this; rfl

theorem args2 {cs : Array Value} (h : cs.size = 2) : cs = #[cs[0], cs[1]] := by
  refine Array.ext (by simp [h]) fun i h1 h2 => ?_
  have : i = 0 ∨ i = 1 := by simp at h2; omega
  rcases this with rfl | rfl <;> rfl

theorem cElem_und {P t r} (h : cElem P t = some r) : ∃ e, P.underlying t = some (.slice e) := by
  obtain ⟨n, z, b⟩ := r
  obtain ⟨e, i, hu, _⟩ := cElem_spec h
  exact ⟨e, hu⟩

theorem sound_clear {P : Program} {c w h} (hh : HRel c w h) {tt : TypeId} {n z bytes} (hel : cElem P tt = some (n, z, bytes)) {xv xc} (hx : VRel c.ro c.m xv xc) {v h'} (hs : clearV h z xv = some (v, h')) {ts : Array TypeId} (hts : ts[0]? = some tt) (ty : TypeId) :
    Ok P c w h (Builtin.clear_ ts ty #[xc]) v h' := by
  obtain ⟨e, i, hu, hi, his, hib, hpos, hzl, hz⟩ := cElem_spec hel
  obtain ⟨i', zz, hi', hzz, h1, h2, h3⟩ := cZero_spec hz
  rw [hi] at hi'; cases hi'
  have hzs : zz.cells.size = z.length := by omega
  cases xv <;> simp only [clearV] at hs <;> try (cases hs; done)
  case nils =>
    cases hs
    cases hx
    refine Ok.of_same hh (cv := .tuple #[]) ?_ (.any ..)
    simp [Builtin.clear_, hts, Sem.run_bind, hu, underlying]
  case sl id off len s k =>
    split at hs
    case h_2 => cases hs
    case h_1 es s' hid =>
      split at hs
      case isFalse => cases hs
      case isTrue hc =>
        obtain ⟨rfl, rfl, hle⟩ := hc
        cases hs
        have same : len = 0 → h.set id (.arr (es.take off ++ (List.replicate len z ++ es.drop (off + len))) z.length) = h := by
          rintro rfl
          have : es.take off ++ (List.replicate 0 z ++ es.drop (off + 0)) = es := by simp
          rw [this]
          obtain ⟨hl, he⟩ := List.getElem?_eq_some_iff.1 hid
          rw [← he, List.set_getElem_self]
        rcases hx.sl_inv with ⟨p, cap, o, hm, hn, hl, ho, ht, hk, rfl⟩ | ⟨p, a, hm, hn, rfl, rfl, rfl, rfl⟩
        rotate_left
        · rw [same rfl]
          refine Ok.of_same hh (cv := .tuple #[]) ?_ (.any ..)
          cases a <;> simp [Builtin.clear_, hts, Sem.run_bind, hu, underlying]
        · by_cases hlen : len = 0
          · rw [same hlen]
            subst hlen
            refine Ok.of_same hh (cv := .tuple #[]) ?_ (.any ..)
            simp [Builtin.clear_, hts, Sem.run_bind, hu, underlying]
          · have hoff : o = p.base + off * z.length := by rcases ho with h | h; exact h; omega
            obtain ⟨cc, e', fr, hw, g1, g2, g3, glen, gones, g4, g5⟩ := arr_cells hh hid hm hn
            have hels := els_zeros (h3 c.ro Pl.none) (cZero_ones hz) len
            rw [hzs] at hels
            have hzc : Builtin.zeroCells zz.cells len = (Array.range (len * z.length)).map (zz.cells[· % z.length]!) := by simp [Builtin.zeroCells, hzs]
            have hnl : (Builtin.zeroCells zz.cells len).size = len * z.length := by rw [zeroCells_length, hzs]
            have hmul : off * z.length + len * z.length ≤ es.length * z.length := by rw [← Nat.add_mul]; exact Nat.mul_le_mul_right _ hle
            have hfit : o + (Builtin.zeroCells zz.cells len).toList.length ≤ cc.size := by simp only [Array.length_toList, hnl]; omega
            have hone : ∀ u ∈ (Builtin.zeroCells zz.cells len).toList, u.oneCell' = true := by
              refine Els.one (ro := c.ro) (m := Pl.none) (es := List.replicate len z) (sz := z.length) ?_ (by simp [hnl])
              have : (fun x => (Builtin.zeroCells zz.cells len).toList[x]?) = fun x => ((Array.range (len * z.length)).map (zz.cells[· % z.length]!))[x]? := funext fun x => by rw [Array.getElem?_toList, hzc]
              rw [this]
              exact hels
            have hst := store_at (P := P) hw hfit (by rw [g1]; exact g5) hone
            obtain ⟨cc', q1, q2, q3⟩ := setCells_heap (Builtin.zeroCells zz.cells len).toList w p.block o cc e' fr hw hfit
            obtain ⟨k1, k2, k3, k4⟩ := setCells_rest (Builtin.zeroCells zz.cells len).toList w p.block o
            have hnewlen : (es.take off ++ (List.replicate len z ++ es.drop (off + len))).length = es.length := by simp; omega
            obtain ⟨r1, r2⟩ := hh.change (w' := w.setCells p.block o (Builtin.zeroCells zz.cells len).toList) id _ (.arr (es.take off ++ (List.replicate len z ++ es.drop (off + len))) z.length) p hid trivial hm hn k1 (fun b hb => setCells_other _ _ _ _ _ hb) k2 k3 k4 (by
              have hget : ∀ (i : Nat) (hi : i < (es.take off ++ (List.replicate len z ++ es.drop (off + len))).length), (es.take off ++ (List.replicate len z ++ es.drop (off + len)))[i] = if off ≤ i ∧ i < off + len then z else es[i]'(by omega) := by
                intro i hi
                rw [hnewlen] at hi
                by_cases c1 : i < off
                · rw [if_neg (by omega), List.getElem_append_left (by simp; omega)]; simp
                · by_cases c2 : i < off + len
                  · rw [if_pos (by omega), List.getElem_append_right (by simp; omega), List.getElem_append_left (by simp; omega)]; simp
                  · rw [if_neg (by omega), List.getElem_append_right (by simp; omega), List.getElem_append_right (by simp; omega), List.getElem_drop]
                    congr 1; simp; omega
              refine ⟨fun hnull => (by rw [hn] at hnull; cases hnull), ?_, ?_, fun _ => ⟨cc', ⟨hn, by omega, g2, e', fr, q1, g5⟩, by rw [hnewlen]; exact g3, ?_⟩⟩
              · intro x hx
                simp only [List.mem_append] at hx
                rcases hx with hx | hx | hx
                · exact gones x (List.mem_of_mem_take hx)
                · rw [List.eq_of_mem_replicate hx]; exact cZero_ones hz
                · exact gones x (List.mem_of_mem_drop hx)
              · intro i hi
                rw [hget i hi]
                split
                · rfl
                · exact glen _ _
              · intro i hi j hj
                have hi' : i < es.length := by rw [hnewlen] at hi; exact hi
                have hms := mul_step (s := z.length) hi'
                have hj0 : j < z.length := by
                  rw [hget i hi] at hj
                  split at hj
                  · exact hj
                  · rwa [glen] at hj
                have e2 := q3 (p.base + i * z.length + j) (by omega)
                by_cases c1 : off ≤ i ∧ i < off + len
                · have e3 : (es.take off ++ (List.replicate len z ++ es.drop (off + len)))[i][j] = z[j] := by simp only [hget i hi, if_pos c1]
                  have m1 := mul_step (s := z.length) (show i - off < len by omega)
                  have m2 : i * z.length = off * z.length + (i - off) * z.length := by rw [← Nat.add_mul]; congr 1; omega
                  rw [if_pos (by simp only [Array.length_toList, hnl]; omega)] at e2
                  obtain ⟨x, hx1, hx2⟩ := hels.rel (i - off) (by simp; omega) j (by simpa using hj0)
                  refine ⟨x, ?_, ?_⟩
                  · rw [e2, Array.getElem?_toList, hzc]
                    have : p.base + i * z.length + j - o = (i - off) * z.length + j := by omega
                    rw [this]
                    exact hx1
                  · rw [e3]; simpa using hx2
                · have e3 : (es.take off ++ (List.replicate len z ++ es.drop (off + len)))[i][j] = es[i][j]'(by rw [glen]; exact hj0) := by simp only [hget i hi, if_neg c1]
                  obtain ⟨x, hx1, hx2⟩ := g4 i hi' j (by rw [glen]; exact hj0)
                  refine ⟨x, ?_, by rw [e3]; exact hx2⟩
                  rw [e2, if_neg]
                  · exact hx1
                  · simp only [Array.length_toList, hnl]
                    rcases Nat.lt_or_ge i off with c2 | c2
                    · have := mul_step (s := z.length) c2; omega
                    · have : off + len ≤ i := by omega
                      have := Nat.mul_le_mul_right z.length this
                      rw [Nat.add_mul] at this
                      omega)
            refine ⟨.tuple #[], _, c, ?_, .any .., r1, r2⟩
            obtain ⟨len', rfl⟩ : ∃ l, len = l + 1 := ⟨len - 1, by omega⟩
            simp [Builtin.clear_, hts, Sem.run_bind, hu, underlying, zeroValue, typeInfo, hi, hzz, hst]

theorem sound_builtin {P : Program} {N c t a w h} (hh : HRel c w h) (ht : TRel N c t a) {b : Builtin} {args : Array Operand} {ts : Array TypeId} {ty : TypeId} {xs : List Opd} (hxs : cOpds N args = some xs) {ao} (hc : cBuiltin P b ts xs = some ao)
    {v h'} (hs : opStep t h ao = some (v, h')) (consts : Array Bool) : Does P c w h (builtin b ts ty consts (args.map a.eval)) v h' := by
  have hr := opds_rel ht hxs
  generalize args.map a.eval = cs at *
  unfold cBuiltin at hc
  split at hc
  · rename_i x tt hts
    have hsz : cs.size = 1 := by rw [← hr.1]; rfl
    have hx := hr.2 0 (by simp) (by omega)
    rw [args1 hsz]
    generalize cs[0] = xc at *
    simp only [List.map_cons, List.getElem_cons_zero] at hx
    split at hc
    · rename_i hstr
      cases hc
      simp only [opStep] at hs
      generalize x.ev t = xv at *
      split at hs <;> cases hs
      exact (sound_lenS hh (isStr_spec hstr) hx hts ty).does
    · split at hc <;> cases hc
      rename_i hel
      obtain ⟨e, hu⟩ := cElem_und hel
      simp only [opStep] at hs
      generalize x.ev t = xv at *
      split at hs <;> cases hs
      · exact (sound_lenL hh hu hx (.inl ⟨_, _, rfl, rfl⟩) hts ty).does
      · exact (sound_lenL hh hu hx (.inr (.inl ⟨_, _, _, _, rfl⟩)) hts ty).does
      · exact (sound_lenL (n := 0) hh hu hx (.inr (.inr ⟨rfl, rfl⟩)) hts ty).does
  · rename_i x y tt hts
    have hsz : cs.size = 2 := by rw [← hr.1]; rfl
    have hx := hr.2 0 (by simp) (by omega)
    have hy := hr.2 1 (by simp) (by omega)
    rw [args2 hsz]
    generalize cs[0] = xc at *
    generalize cs[1] = yc at *
    simp only [List.map_cons, List.getElem_cons_zero, List.getElem_cons_succ] at hx hy
    split at hc
    case h_2 => cases hc
    case h_1 n z bytes u hel hu =>
      split at hc
      case isTrue => cases hc
      case isFalse hb =>
        have hts' : ts = #[tt, u] ++ ts.extract 2 ts.size := by
          refine Array.ext (by have h1 := (Array.getElem?_eq_some_iff.1 hu).1; simp; omega) fun i h1 h2 => ?_
          rcases Nat.lt_or_ge i 2 with h3 | h3
          · have : i = 0 ∨ i = 1 := by omega
            rcases this with rfl | rfl
            · simpa using (Array.getElem?_eq_some_iff.1 hts).2
            · simpa using (Array.getElem?_eq_some_iff.1 hu).2
          · rw [Array.getElem_append_right (by simpa using h3)]
            simp [Array.getElem_extract]
            congr 1; omega
        have happ : ∀ (ty' : TypeId) (as : Array Value), Builtin.append_ ts ty' as = Builtin.append_ #[tt, u] ty' as := by
          intro ty' as
          unfold Builtin.append_
          have e0 : ts[0]? = (#[tt, u] : Array TypeId)[0]? := by rw [hts]; rfl
          have e1 : ts[1]? = (#[tt, u] : Array TypeId)[1]? := by rw [hu]; rfl
          simp only [e0, e1]
        have fin : ∀ str, ((str = true ∧ P.underlying u = some .string ∧ n = 1) ∨ (str = false ∧ ∃ e', P.underlying u = some (.slice e'))) → ao = .append x y n bytes str → Does P c w h (builtin .append ts ty consts #[xc, yc]) v h' := by
          rintro str hstr rfl
          simp only [opStep] at hs
          have := sound_append (P := P) (ty := ty) hh hel (Nat.pos_of_ne_zero hb) hstr hx hy hs
          have h2 := this.does
          simp only [builtin, happ]
          exact h2
        split at hc
        · rename_i hstr
          split at hc
          case h_2 => cases hc
          case h_1 e hue =>
            split at hc <;> cases hc
            rename_i hn
            subst hn
            simp only [opStep] at hs
            split at hs
            case isFalse => cases hs
            case isTrue hok =>
              split at hs <;> cases hs
              rename_i v' h2 happ'
              have := (sound_appendB (P := P) (ty := ty) hh hel (Nat.pos_of_ne_zero hb) (isStr_spec hstr) hue hx hy hok happ').does
              simp only [builtin, happ]
              exact this
        · split at hc <;> cases hc
          rename_i e' hue
          exact fin false (.inr ⟨rfl, e', hue⟩) rfl
  · split at hc <;> cases hc
    simp [opStep] at hs
  · rename_i x tt hts
    split at hc <;> cases hc
    rename_i nn z bb hel
    have hsz : cs.size = 1 := by rw [← hr.1]; rfl
    have hx := hr.2 0 (by simp) (by omega)
    rw [args1 hsz]
    exact (sound_clear hh hel (by simpa using hx) (by simpa [opStep] using hs) hts ty).does
  · rename_i x _
    cases hc
    have hsz : cs.size = 1 := by rw [← hr.1]; rfl
    have hx := hr.2 0 (by simp) (by omega)
    rw [args1 hsz]
    generalize cs[0] = xc at *
    simp only [List.map_cons, List.getElem_cons_zero] at hx
    simp only [opStep] at hs
    split at hs
    case h_2 => cases hs
    case h_1 id off len sz k hev =>
      split at hs <;> cases hs
      rename_i hcond
      rw [hev] at hx
      exact (sound_usd hh hx hcond.1 hcond.2).does
  · rename_i x y tt hts
    have hsz : cs.size = 2 := by rw [← hr.1]; rfl
    have hx := hr.2 0 (by simp) (by omega)
    have hy := hr.2 1 (by simp) (by omega)
    rw [args2 hsz]
    generalize cs[0] = xc at *
    generalize cs[1] = yc at *
    simp only [List.map_cons, List.getElem_cons_zero, List.getElem_cons_succ] at hx hy
    split at hc
    case h_2 => cases hc
    case h_1 e hpe =>
      split at hc <;> cases hc
      rename_i hcc
      have hts2 : ts = #[tt, ts[1]'(by omega)] := by
        refine Array.ext (by simp [hcc.2]) fun i h1 h2 => ?_
        have : i = 0 ∨ i = 1 := by simp at h2; omega
        rcases this with rfl | rfl
        · simpa using (Array.getElem?_eq_some_iff.1 hts).2
        · rfl
      rw [hts2]
      simp only [opStep] at hs
      split at hs
      case h_2 => cases hs
      case h_1 id m hev hev2 =>
        split at hs
        case h_2 => cases hs
        case h_1 es hid =>
          split at hs
          case isFalse => cases hs
          case isTrue hcond =>
            split at hs <;> cases hs
            rename_i hl
            obtain ⟨a1, a2, a3, a4, a5⟩ := hcond
            rw [hev] at hx
            rw [hev2] at hy
            exact (sound_ustr hh hpe hcc.1 hx hy hid a1 a2 a3 a4 a5 hl).does
  · cases hc
    simp only [opStep] at hs
    split at hs <;> cases hs
    rename_i hm
    exact (sound_mm (P := P) (c := c) (w := w) hh false hr hm ts ty).does
  · cases hc
    simp only [opStep] at hs
    split at hs <;> cases hs
    rename_i hm
    exact (sound_mm (P := P) (c := c) (w := w) hh true hr hm ts ty).does
  · cases hc

theorem op_sound {P : Program} {N c t a w h} (hh : HRel c w h) (ht : TRel N c t a) {o : Oper} {ao : AOp} (hc : cOp P N o.op = some ao) {v h'} (hs : opStep t h ao = some (v, h')) : Does P c w h (execOp a.eval o) v h' := by
  obtain ⟨dst, op, ty, pos, after, guard⟩ := o
  simp only at hc
  have hc0 := hc
  cases op <;> simp only [cOp] at hc <;> try (cases hc; done)
  case move x => split at hc <;> cases hc; rename_i hx; simp only [opStep] at hs; cases hs; exact does_pure hh (opd_rel ht hx)
  case assign x => split at hc <;> cases hc; rename_i hx; simp only [opStep] at hs; cases hs; exact does_pure hh (opd_rel ht hx)
  case pick cc x y =>
    split at hc <;> cases hc
    rename_i h1 h2 h3
    simp only [opStep] at hs
    have r1 := opd_rel ht h1
    split at hs <;> cases hs
    rename_i b hb
    rw [hb] at r1
    refine ⟨.value (if b then a.eval x else a.eval y), w, c, ?_, .inl ⟨_, rfl, ?_⟩, hh, Adv.refl ..⟩
    · simp [execOp, r1.bool_inv, asBool, Sem.run_bind]
    · cases b
      · exact opd_rel ht h3
      · exact opd_rel ht h2
  case alloc e =>
    split at hc
    case h_2 => cases hc
    case h_1 z hz =>
      split at hc <;> cases hc
      · simp only [opStep] at hs
        cases hs
        exact (sound_allocT hh e hz).does
      · simp only [opStep] at hs
        cases hs
        exact (sound_alloc hh e hz).does
  case box e x =>
    split at hc <;> cases hc
    rename_i hx
    simp only [opStep] at hs
    split at hs <;> cases hs
    rename_i hcell
    exact (sound_box hh e (opd_rel ht hx) hcell).does
  case build e parts =>
    have : ∃ z ps, ao = .build z ps := by
      split at hc
      · split at hc
        · split at hc <;> cases hc; exact ⟨_, _, rfl⟩
        · cases hc
      · split at hc
        · split at hc <;> cases hc; exact ⟨_, _, rfl⟩
        · cases hc
      · cases hc
    obtain ⟨z, ps, rfl⟩ := this
    exact (sound_build hh ht hc0 hs).does
  case buildSlice e len parts =>
    have : ∃ n z ps, ao = .bslice len n z ps := by
      split at hc
      · split at hc
        · split at hc <;> cases hc; exact ⟨_, _, _, rfl⟩
        · cases hc
      · cases hc
    obtain ⟨n, z, ps, rfl⟩ := this
    exact (sound_bslice hh ht hc0 hs).does
  case load e x =>
    split at hc <;> cases hc
    rename_i hk hx
    exact (sound_load hh ht hx hk hs).does
  case store e x y =>
    split at hc <;> cases hc
    rename_i hk hx hy
    obtain ⟨w', h1, h2, h3, h4⟩ := sound_store (P := P) hh ht hx hy hk hs
    exact ⟨.skip, w', c, by simp [execOp, Sem.run_bind, h1], .inr ⟨rfl, h2⟩, h3, h4⟩
  case binOp op tt x y yt =>
    split at hc
    case h_2 => cases hc
    case h_1 x' y' hx hy =>
      split at hc
      · cases hc
        simp only [opStep] at hs
        split at hs <;> cases hs
        rename_i hb
        exact (sound_bin hh (opd_rel ht hx) (opd_rel ht hy) hb).does
      · rename_i hsc
        split at hc
        · cases hc
          simp only [opStep] at hs
          split at hs <;> cases hs
          rename_i hb
          exact (sound_bin hh (opd_rel ht hx) (opd_rel ht hy) hb).does
        · cases hc
          simp only [opStep] at hs
          split at hs <;> cases hs
          rename_i hb
          exact (sound_bin hh (opd_rel ht hx) (opd_rel ht hy) hb).does
        · have hop : op = .eql ∨ op = .neq := by cases op <;> simp [scalarOp] at hsc <;> simp
          split at hc
          · cases hc
            rename_i k hk
            simp only [opStep] at hs
            split at hs <;> cases hs
            rename_i hb
            exact (sound_eq hh hop hk (opd_rel ht hx) (opd_rel ht hy) hb).does
          · split at hc <;> cases hc
            rename_i ks hk
            simp only [opStep] at hs
            have r1 := opd_rel ht hx
            have r2 := opd_rel ht hy
            split at hs
            case h_2 => cases hs
            case h_1 e1 e2 =>
              split at hs <;> cases hs
              rename_i hb
              rw [e1] at r1
              rw [e2] at r2
              exact (sound_eqG hh hop hk r1 r2 hb).does
  case unOp op tt x =>
    split at hc <;> cases hc
    rename_i hx
    simp only [opStep] at hs
    split at hs <;> cases hs
    rename_i hb
    exact (sound_un hh (opd_rel ht hx) hb).does
  case convert s d x =>
    split at hc
    · cases hc
      rename_i hx hs1 hs2
      simp only [opStep] at hs
      have r1 := opd_rel ht hx
      split at hs <;> cases hs
      rename_i hb
      rw [hb] at r1
      rename_i k1 k2 _ k3 n
      have : Ok P c w h (convert s d (a.eval x)) (.int k2 (k2.wrap n)) h := Ok.of_same hh (cv := .int k2 (k2.wrap n)) (by rw [r1.int_inv]; simp [convert, run_underlying hs1, run_underlying hs2, Conv.intToInt]) (.int ..)
      exact this.does
    · cases hc
      rename_i hx hs1 hs2
      simp only [opStep] at hs
      have r1 := opd_rel ht hx
      split at hs <;> cases hs
      rename_i hb
      rw [hb] at r1
      rename_i l
      have : Ok P c w h (convert s d (a.eval x)) (.str l) h := Ok.of_same hh (cv := .string ⟨l.toArray⟩) (by rw [r1.str_inv]; simp [convert, run_underlying hs1, run_underlying hs2]) (.str ..)
      exact this.does
    · split at hc <;> cases hc
      rename_i hx hs1 hs2 _ hs3
      simp only [opStep] at hs
      split at hs
      case h_2 => cases hs
      case h_1 es he =>
        split at hs <;> cases hs
        rename_i hb
        exact (sound_b2s hh hs1 hs3 hs2 (opd_rel ht hx) he hb).does
    · split at hc
      case h_2 => cases hc
      case h_1 hx hs1 hs2 _ j hj =>
        split at hc <;> cases hc
        rename_i hne
        simp only [opStep] at hs
        have r1 := opd_rel ht hx
        split at hs
        case h_2 => cases hs
        case h_1 id o hev =>
          split at hs
          case h_2 => cases hs
          case h_1 cs hid =>
            split at hs <;> cases hs
            rename_i ho
            rw [hev] at r1
            exact (sound_cvU hh hs1 hs2 hj hne r1 hid ho).does
    · split at hc
      case h_2 => cases hc
      case h_1 hx hs1 hs2 _ j hj =>
        split at hc <;> cases hc
        rename_i hlies
        simp only [opStep] at hs
        have r1 := opd_rel ht hx
        split at hs
        case h_2 => cases hs
        case h_1 id hev =>
          split at hs
          case h_2 => cases hs
          case h_1 cs hid =>
            split at hs <;> cases hs
            rename_i hty
            rw [hev] at r1
            exact (sound_cvP hh hs1 hs2 hj hlies r1 hid hty).does
    · cases hc
  case makeFunc fn first caps =>
    cases fn <;> simp only [cOp] at hc <;> try (cases hc; done)
    rename_i f
    split at hc
    case isFalse => cases hc
    case isTrue hfi =>
      split at hc <;> cases hc
      rename_i hx
      simp only [opStep] at hs
      cases hs
      have hf : first = #[] := by simpa using hfi
      subst hf
      obtain ⟨r1, r2⟩ := opds_rel ht hx
      exact ⟨.value (.func (.func f) #[] (caps.map a.eval)), w, c, by simp [execOp, Instr.makeFunc, Sem.run_bind], .inl ⟨_, rfl, .fn _ _ _ _ r1 r2⟩, hh, Adv.refl ..⟩
  case field tt x f =>
    split at hc <;> cases hc
    rename_i hf hx
    simp only [opStep] at hs
    have r1 := opd_rel ht hx
    split at hs
    case h_2 => cases hs
    case h_1 cs hcs =>
      split at hs <;> cases hs
      rename_i hb
      exact (sound_fld hh hf r1 hcs hb).does
  case fieldAddr tt x f =>
    split at hc
    case h_2 => cases hc
    case h_1 f' n b x' hf hx =>
      split at hc <;> cases hc
      rename_i hn
      exact (sound_fldA hh ht hf hn (opd_rel ht hx) hs).does
  case indexAddr tt x i =>
    have : ∃ x' i' arr sz, ao = .idxA x' i' arr sz := by
      split at hc
      · split at hc
        · split at hc <;> cases hc; exact ⟨_, _, _, _, rfl⟩
        · cases hc
      · split at hc <;> cases hc; exact ⟨_, _, _, _, rfl⟩
      · cases hc
    obtain ⟨x', i', arr, sz, rfl⟩ := this
    exact (sound_idxA hh ht hc0 hs).does
  case index tt x i =>
    have : (∃ x' i' len sz agg, ao = .idxG x' i' len sz agg) ∨ (∃ x' i', ao = .idxS x' i') := by
      split at hc
      · split at hc <;> cases hc; exact .inl ⟨_, _, _, _, _, rfl⟩
      · cases hc; exact .inr ⟨_, _, rfl⟩
      · cases hc
    rcases this with ⟨x', i', len, sz, agg, rfl⟩ | ⟨x', i', rfl⟩
    · exact (sound_idxG hh ht hc0 hs).does
    · exact (sound_idxS hh ht hc0 hs).does
  case slice tt x lo hi mx =>
    split at hc
    · rename_i x' lo' hi' hx hlo hhi hmx hu
      cases hc
      have hm : mx = none := by
        cases mx with
        | none => rfl
        | some y => simp only [cOpt] at hmx; cases hy : cOpd N y <;> simp [hy] at hmx
      subst hm
      exact (sound_slcS hh ht hu hx hlo hhi hs).does
    · rename_i x' lo' hi' mx' e hx hlo hhi hmx hu
      split at hc <;> cases hc
      rename_i hk
      exact (sound_slc hh ht hu hk hx hlo hhi hmx hs).does
    · rename_i x' lo' hi' n e hx hlo hhi hmx hu
      split at hc
      case h_2 => cases hc
      case h_1 sz b hk =>
        split at hc <;> cases hc
        have hm : mx = none := by
          cases mx with
          | none => rfl
          | some y => simp only [cOpt] at hmx; cases hy : cOpd N y <;> simp [hy] at hmx
        subst hm
        exact (sound_slcA hh ht hu hk hx hlo hhi hs).does
    · cases hc
  case extract x i =>
    split at hc <;> cases hc
    rename_i hx
    simp only [opStep] at hs
    have r1 := opd_rel ht hx
    split at hs
    case h_2 => cases hs
    case h_1 vs hvs =>
      split at hs <;> cases hs
      rename_i hi
      rw [hvs] at r1
      obtain ⟨cs, hcs, h1, h2⟩ := r1.tup_inv
      obtain ⟨hlt, rfl⟩ := List.getElem?_eq_some_iff.1 hi
      have hlt' : i < cs.size := by omega
      refine ⟨.value cs[i], w, c, ?_, .inl ⟨_, rfl, h2 i hlt hlt'⟩, hh, Adv.refl ..⟩
      simp [execOp, hcs, Instr.extract, Sem.run_bind, hlt']
  case nilCheck x =>
    split at hc <;> cases hc
    rename_i hx
    simp only [opStep] at hs
    have r1 := opd_rel ht hx
    have fin : ∀ cv, a.eval x = cv → (∃ p, cv = .pointer (some p)) ∨ (∃ f cs, cv = .func (.func f) #[] cs) → (execOp a.eval ⟨dst, .nilCheck x, ty, pos, after, guard⟩).run P w = .ok (.value cv) w := by
      rintro cv he (⟨p, rfl⟩ | ⟨f, cs, rfl⟩) <;> simp [execOp, he]
    split at hs <;> cases hs <;> rename_i hv <;> rw [hv] at r1
    · obtain ⟨p, h1, h2, h3⟩ := r1.ptr_inv
      exact ⟨_, w, c, fin _ rfl (.inl ⟨_, h3⟩), .inl ⟨_, rfl, r1⟩, hh, Adv.refl ..⟩
    · obtain ⟨p, h1, h2, h3⟩ := r1.eptr_inv
      exact ⟨_, w, c, fin _ rfl (.inl ⟨_, h3⟩), .inl ⟨_, rfl, r1⟩, hh, Adv.refl ..⟩
    · obtain ⟨b, o, cs, f, h1, h2, h3, h4⟩ := r1.rptr_inv
      exact ⟨_, w, c, fin _ rfl (.inl ⟨_, h4⟩), .inl ⟨_, rfl, r1⟩, hh, Adv.refl ..⟩
    · obtain ⟨cs, h1, h2⟩ := r1.fn_inv
      exact ⟨_, w, c, fin _ rfl (.inr ⟨_, _, h1⟩), .inl ⟨_, rfl, r1⟩, hh, Adv.refl ..⟩
  case makeSlice tt x y =>
    split at hc <;> cases hc
    exact (sound_mks hh ht hc0 hs).does
  case call cl =>
    obtain ⟨callee, args, ats⟩ := cl
    cases callee with
    | value f =>
      simp only [cOp] at hc
      split at hc
      · rename_i hne
        split at hc <;> cases hc
        rename_i x hxs
        simp only [opStep] at hs
        cases hs
        have hr := opds_rel ht hxs
        have hsz : (args.map a.eval).size = 1 := by rw [← hr.1]; rfl
        have hx := hr.2 0 (by simp) (by omega)
        simp only [List.map_cons, List.getElem_cons_zero] at hx
        have hargs := args1 hsz
        cases f with
        | func f =>
          have hrun := noEsc_run hne (args.map a.eval)[0] w
          refine ⟨.value (args.map a.eval)[0], w, c, ?_, .inl ⟨_, rfl, hx⟩, hh, Adv.refl ..⟩
          rw [← hargs] at hrun
          have hev : a.eval (.func f) = .func (.func f) #[] #[] := rfl
          simp only [execOp, resolve, Sem.run_bind, hev, Deferred.ofValue, Sem.run_pure, Result.andThen_ok, invoke]
          simpa using hrun
        | _ => simp [isNoEsc] at hne
      · split at hc <;> cases hc
        simp [opStep] at hs
    | invoke r m => simp [cOp] at hc
    | builtin b =>
      simp only [cOp] at hc
      split at hc
      case h_2 => cases hc
      case h_1 xs hxs =>
        obtain ⟨r, w', c', h1, h2⟩ := sound_builtin (P := P) (ty := ty) hh ht hxs hc hs (args.map fun | .const _ => true | _ => false)
        refine ⟨r, w', c', ?_, h2⟩
        simp only [execOp, resolve, Sem.run_bind, Sem.run_pure, Result.andThen_ok, invoke]
        exact h1

end Sx
