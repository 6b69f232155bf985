/-
  Sx, part I: build, slice literals, append, make: held against the model's.
-/
import Derived.Test.YticecideodkcmaaSxH
import Derived.Laws.MakeOwn
namespace Sx
open Go

theorem ofVal0_one {v : Value} {v' : V} (h : V.ofVal0 v = some v') : v'.one = true := by
  unfold V.ofVal0 at h; split at h <;> cases h <;> rfl

theorem ones_of : ∀ {l : List V}, (∀ v ∈ l, v.one = true) → V.ones l = true
  | [], _ => rfl
  | a :: l, h => by simp only [V.ones, Bool.and_eq_true]; exact ⟨h a (by simp), ones_of fun v hv => h v (by simp [hv])⟩

theorem cZero_ones {P t l} (h : cZero P t = some l) : V.ones l = true := by
  unfold cZero at h
  split at h
  case h_2 => cases h
  case h_1 i hi =>
    split at h
    case h_2 => cases h
    case h_1 z hz =>
      simp only at h
      split at h
      case isFalse => cases h
      case isTrue hl =>
        obtain ⟨h1, h2⟩ := mapM_some _ _ _ h
        refine ones_of fun v hv => ?_
        obtain ⟨k, hk, rfl⟩ := List.getElem_of_mem hv
        exact ofVal0_one (h2 k (by omega) hk)

theorem pures_get : ∀ {l : List V}, V.pures l = true → ∀ (j : Nat) (hj : j < l.length), l[j].pure = true
  | a :: l, h, 0, _ => by simp only [V.pures, Bool.and_eq_true] at h; exact h.1
  | a :: l, h, j + 1, hj => by simp only [V.pures, Bool.and_eq_true] at h; exact pures_get h.2 j (by simpa using hj)

theorem Els.pure {ro m es sz g} (h : Els ro m es sz g) (hp : es.all V.pures = true) : Els ro Pl.none es sz g :=
  ⟨h.len, h.ones, fun i hi j hj => by
    obtain ⟨x, hx, hv⟩ := h.rel i hi j hj
    exact ⟨x, hx, pure_rel (pures_get (List.all_eq_true.1 hp _ (List.getElem_mem hi)) j hj) hv⟩⟩

theorem cPart_spec {P : Program} {N fs zl x r} (h : cPart P N fs zl x = some r) : ∃ f i, fs[x.1]? = some f ∧ P.info? f.type = some i ∧ r.1 = f.offset ∧ r.2.1 = i.size ∧ cOpd N x.2 = some r.2.2 ∧ r.1 + r.2.1 ≤ zl := by
  unfold cPart at h
  split at h
  case h_2 => cases h
  case h_1 f hf =>
    split at h
    case h_2 => cases h
    case h_1 n b y hs hy =>
      split at h <;> cases h
      obtain ⟨d, i, _, hi, hsz⟩ := cSize_size hs
      exact ⟨f, i, hf, hi, rfl, hsz.symm, hy, by assumption⟩

theorem cPartA_spec {N n zl x r} (h : cPartA N n zl x = some r) : r.1 = x.1 * n ∧ r.2.1 = n ∧ cOpd N x.2 = some r.2.2 ∧ r.1 + r.2.1 ≤ zl := by
  unfold cPartA at h
  split at h
  case h_2 => cases h
  case h_1 y hy => split at h <;> cases h; exact ⟨rfl, rfl, hy, by assumption⟩

theorem cPartE_spec {N len x r} (h : cPartE N len x = some r) : r.1 = x.1 ∧ cOpd N x.2 = some r.2 ∧ r.1 < len := by
  unfold cPartE at h
  split at h
  case h_2 => cases h
  case h_1 y hy => split at h <;> cases h; exact ⟨rfl, hy, by assumption⟩

theorem cElem_spec {P t n z b} (h : cElem P t = some (n, z, b)) : ∃ e i, P.underlying t = some (.slice e) ∧ P.info? e = some i ∧ i.size = n ∧ i.bytes = b ∧ 0 < n ∧ z.length = n ∧ cZero P e = some z := by
  unfold cElem at h
  split at h
  case h_2 => cases h
  case h_1 e hu =>
    split at h
    case h_2 => cases h
    case h_1 n' bb z' i hs hz hi =>
      split at h <;> cases h
      rename_i hc
      exact ⟨e, i, hu, hi, hc.2.2, rfl, hc.1, hc.2.1, hz⟩

theorem places_all {P : Program} : ∀ (l : List Field), (l.all fun f => (P.info? f.type).isSome) = true → l.mapM (fun f => (P.info? f.type).map fun i => (f.offset, i.size)) = some (l.map (fun f => (f.offset, ((P.info? f.type).map (·.size)).getD 0)))
  | [], _ => rfl
  | f :: l, hl => by
    simp only [List.all_cons, Bool.and_eq_true] at hl
    obtain ⟨fi, hfi⟩ := Option.isSome_iff_exists.1 hl.1
    simp [List.mapM_cons, hfi, places_all l hl.2]

theorem sound_build {P : Program} {N c t a w h} (hh : HRel c w h) (ht : TRel N c t a) {ty : TypeId} {parts : Array (Nat × Operand)} {zero ps} (hc : cOp P N (.build ty parts) = some (.build zero ps)) {v h'}
    (hs : opStep t h (.build zero ps) = some (v, h')) : Ok P c w h (Instr.build ty (parts.map fun (i, x) => (i, a.eval x))) v h' := by
  simp only [opStep] at hs
  split at hs <;> cases hs
  rename_i cs hf
  have fin : ∀ (place : Nat → Option (Nat × Nat)) (zz : Value), VRels c.ro c.m zero zz.cells → parts.toList.length = ps.length → (∀ k (h : k < parts.toList.length) (h' : k < ps.length), place parts.toList[k].1 = some (ps[k].1, ps[k].2.1) ∧ cOpd N parts.toList[k].2 = some ps[k].2.2 ∧ ps[k].1 + ps[k].2.1 ≤ zero.length) →
      (∀ cr, Instr.fill place zz.cells (parts.map fun (i, x) => (i, a.eval x)).toList = some cr → P.built ty (parts.map fun (i, x) => (i, a.eval x)).toList = some cr) → Ok P c w h (Instr.build ty (parts.map fun (i, x) => (i, a.eval x))) (.agg cs) h := by
    intro place zz h3 g1 g2 g3
    obtain ⟨cr, k1, k2⟩ := fill_sound ht place parts.toList ps zero zz.cells cs g1 g2 h3 hf
    have k1' : Instr.fill place zz.cells (parts.map fun (i, x) => (i, a.eval x)).toList = some cr := by rw [Array.toList_map]; exact k1
    exact Ok.of_same hh (run_build w ty _ cr (g3 cr k1')) (.agg _ _ _ k2.1 k2.2)
  simp only [cOp] at hc
  split at hc
  · rename_i z fs hz hu
    obtain ⟨i, zz, hi, hzz, h1, h2, h3⟩ := cZero_spec hz
    split at hc
    case h_2 => cases hc
    case h_1 l hp =>
      split at hc
      case isFalse => cases hc
      case isTrue hall =>
        cases hc
        obtain ⟨q1, q2⟩ := mapM_some _ _ _ hp
        refine fin ((fs.toList.map (fun f => (f.offset, ((P.info? f.type).map (·.size)).getD 0))).toArray[·]?) zz (h3 _ _) q1 (fun k hk hk' => ?_) (fun cr hcr => ?_)
        · obtain ⟨f, fi, k1, k2, k3, k4, k5, k6⟩ := cPart_spec (q2 k hk hk')
          refine ⟨?_, k5, k6⟩
          simp only [List.getElem?_toArray, List.getElem?_map, Array.getElem?_toList, k1, Option.map_some, k2, Option.getD_some, k3, k4]
        · unfold Program.built
          simp only [hi, hu, hzz, places_all _ hall]; exact hcr
  · rename_i z n e hz hu
    obtain ⟨i, zz, hi, hzz, h1, h2, h3⟩ := cZero_spec hz
    split at hc
    case h_2 => cases hc
    case h_1 sz b hse =>
      split at hc
      case h_2 => cases hc
      case h_1 l hp =>
        cases hc
        obtain ⟨d, ie, _, hie, hies⟩ := cSize_size hse
        obtain ⟨q1, q2⟩ := mapM_some _ _ _ hp
        refine fin (fun i => some (i * sz, sz)) zz (h3 _ _) q1 (fun k hk hk' => ?_) (fun cr hcr => ?_)
        · obtain ⟨k1, k2, k3, k4⟩ := cPartA_spec (q2 k hk hk')
          exact ⟨by rw [k1, k2], k3, k4⟩
        · unfold Program.built
          simp only [hi, hu, hzz, hie, hies]; exact hcr
  · cases hc

theorem fillEl_sound {N c t a} (ht : TRel N c t a) (sz : Nat) : ∀ (parts : List (Nat × Operand)) (ps : List (Nat × Opd)) (es : List (List V)) (cc : Array Value) (r : List (List V)),
    parts.length = ps.length → (∀ i (h : i < parts.length) (h' : i < ps.length), parts[i].1 = ps[i].1 ∧ cOpd N parts[i].2 = some ps[i].2 ∧ ps[i].1 < es.length) →
    Els c.ro c.m es sz (cc[·]?) → cc.size = es.length * sz → fillEl t sz es ps = some r →
    ∃ cr, Instr.fill (fun i => some (i * sz, sz)) cc (parts.map fun p => (p.1, a.eval p.2)) = some cr ∧ Els c.ro c.m r sz (cr[·]?) ∧ cr.size = cc.size ∧ r.length = es.length
  | [], ps, es, cc, r, hl, _, hr, _, hf => by
    cases ps with
    | nil => simp [fillEl] at hf; subst hf; exact ⟨cc, rfl, hr, rfl, rfl⟩
    | cons => simp at hl
  | (i, x) :: parts, [], _, _, _, hl, _, _, _, _ => by simp at hl
  | (i, x) :: parts, (i', y) :: ps, es, cc, r, hl, hp, hr, hcs, hf => by
    obtain ⟨h1, h2, h3⟩ := hp 0 (by simp) (by simp)
    simp only [List.getElem_cons_zero] at h1 h2 h3
    subst h1
    simp only [fillEl] at hf
    split at hf
    case isFalse => cases hf
    case isTrue hc =>
      simp only [Bool.and_eq_true, beq_iff_eq] at hc
      have hv := opd_rel ht h2
      obtain ⟨hcr, _⟩ := cells_rel hv hc.1
      have hsz : (a.eval x).cells.size = sz := by rw [← hcr.1, hc.2]
      have hms := mul_step (s := sz) h3
      obtain ⟨f1, f2⟩ := fold_set0 (i * sz) (a.eval x).cells cc (by omega)
      have hnew : Els c.ro c.m (es.set i (y.ev t).cells) sz ((((a.eval x).cells.zipIdx.foldl (fun cs (z : Value × Nat) => cs.setIfInBounds (i * sz + z.2) z.1) cc))[·]?) := by
        refine ⟨fun k hk => ?_, fun e he => ?_, fun k hk j hj => ?_⟩
        · rw [List.getElem_set]; split
          · exact hc.2
          · exact hr.len k (by simpa using hk)
        · rcases List.mem_or_eq_of_mem_set he with he | rfl
          · exact hr.ones e he
          · exact celled_ones hc.1
        · have hk' : k < es.length := by simpa using hk
          have hmk := mul_step (s := sz) hk'
          by_cases e : i = k
          · subst e
            simp only [List.getElem_set_self] at hj ⊢
            refine ⟨(a.eval x).cells[j]'(by omega), ?_, hcr.2 j hj (by omega)⟩
            rw [f2 (i * sz + j) (by omega), if_pos (by omega)]
            rw [show i * sz + j - i * sz = j from by omega, Array.getElem?_eq_getElem (by omega)]
          · simp only [List.getElem_set_ne e] at hj ⊢
            obtain ⟨u, hu, huv⟩ := hr.rel k hk' j hj
            refine ⟨u, ?_, huv⟩
            have hlk := hr.len k hk'
            rw [f2 (k * sz + j) (by omega), if_neg]
            · exact hu
            · rcases Nat.lt_or_gt_of_ne e with h | h
              · have := mul_step (s := sz) h; omega
              · have := mul_step (s := sz) h; omega
      obtain ⟨cr, g1, g2, g3, g4⟩ := fillEl_sound ht sz parts ps _ _ r (by simpa using hl) (fun j a b => by
        have := hp (j + 1) (by simpa using a) (by simpa using b)
        simp only [List.getElem_cons_succ] at this
        simpa using this) hnew (by rw [f1, hcs]; simp) hf
      refine ⟨cr, ?_, g2, by rw [g3, f1], by rw [g4]; simp⟩
      simp only [List.map_cons, Instr.fill]
      rw [if_neg (by rw [hsz]; simp; omega)]
      exact g1

theorem els_zeros {ro m} {z : Array Value} {zero : List V} (hz : VRels ro m zero z) (h1 : V.ones zero = true) (n : Nat) :
    Els ro m (List.replicate n zero) z.size (((Array.range (n * z.size)).map (z[· % z.size]!))[·]?) := by
  refine ⟨fun i h => by simp [hz.1], fun e he => by rw [List.eq_of_mem_replicate he]; exact h1, fun i hi j hj => ?_⟩
  simp only [List.getElem_replicate] at hj ⊢
  have hi' : i < n := by simpa using hi
  have hj' : j < z.size := by rw [← hz.1]; exact hj
  refine ⟨z[j], ?_, hz.2 j hj hj'⟩
  have hlt : i * z.size + j < n * z.size := by have := mul_step (s := z.size) hi'; omega
  simp only [Array.getElem?_map]
  rw [Array.getElem?_range, if_pos hlt]
  simp only [Option.map_some]
  rw [show (i * z.size + j) % z.size = j from by rw [Nat.add_comm, Nat.add_mul_mod_self_right]; exact Nat.mod_eq_of_lt hj']
  rw [getElem!_pos z j hj']

theorem sound_bslice {P : Program} {N c t a w h} (hh : HRel c w h) (ht : TRel N c t a) {ty len} {parts : Array (Nat × Operand)} {sz zero ps} (hc : cOp P N (.buildSlice ty len parts) = some (.bslice len sz zero ps)) {v h'}
    (hs : opStep t h (.bslice len sz zero ps) = some (v, h')) : Ok P c w h (Instr.buildSlice ty len (parts.map fun (i, x) => (i, a.eval x))) v h' := by
  simp only [opStep] at hs
  split at hs
  case h_2 => cases hs
  case h_1 es hf =>
    split at hs
    case isFalse => cases hs
    case isTrue hpure =>
      cases hs
      simp only [cOp] at hc
      split at hc
      case h_2 => cases hc
      case h_1 sz' z bytes hel =>
        split at hc
        case isFalse => cases hc
        case isTrue hc1 =>
          split at hc
          case h_2 => cases hc
          case h_1 l hp =>
            cases hc
            obtain ⟨q1, q2⟩ := mapM_some _ _ _ hp
            obtain ⟨e, i, hu, hi, his, hib, hpos, hzl, hz⟩ := cElem_spec hel
            obtain ⟨i', zz, hi', hzz, h1, h2, h3⟩ := cZero_spec hz
            rw [hi] at hi'; cases hi'
            have hzs : zz.cells.size = sz := by omega
            have e0 := els_zeros (h3 c.ro c.m) (cZero_ones hz) len
            rw [hzs] at e0
            obtain ⟨cr, g1, g2, g3, g4⟩ := fillEl_sound ht sz parts.toList ps _ _ es q1 (fun k hk hk' => by
              obtain ⟨k1, k2, k3⟩ := cPartE_spec (q2 k hk hk')
              exact ⟨k1.symm, k2, by simpa using k3⟩) e0 (by simp) hf
            have g1' : Instr.fill (fun i => some (i * sz, sz)) ((Array.range (len * sz)).map (zz.cells[· % zz.cells.size]!)) (parts.map fun (i, x) => (i, a.eval x)).toList = some cr := by
              rw [Array.toList_map, hzs]; exact g1
            have hcrs : cr.size = len * sz := by rw [g3]; simp
            have hel' : es.length = len := by rw [g4]; simp
            obtain ⟨w', c', k1, k2, k3, k4⟩ := newRow_ok (P := P) hh e cr (.arr es sz) (fun m' _ w' hw => arr_of_els (g2.pure hpure) hw (by rw [hel', hcrs]; exact Nat.le_refl _))
            have hrun : (Instr.buildSlice ty len (parts.map fun (i, x) => (i, a.eval x))).run P w = .ok (.slice (some ⟨w.heap.size, 0, none⟩) len len) w' := by
              rcases Nat.eq_zero_or_pos (len * sz) with h0 | h0
              · have hl0 : len = 0 := by
                  rcases Nat.mul_eq_zero.1 h0 with h | h
                  · exact h
                  · omega
                subst hl0
                have hpn : parts = #[] := by
                  rcases Nat.eq_zero_or_pos parts.size with h | h
                  · exact Array.eq_empty_of_size_eq_zero h
                  · have := (cPartE_spec (q2 0 (by simpa using h) (by rw [← q1]; simpa using h))).2.2
                    omega
                subst hpn
                have hcr : cr = #[] := Array.eq_empty_of_size_eq_zero (by omega)
                subst hcr
                have k1' : ∀ f : Nat → Value, (newRow e (Array.map f (Array.range 0))).run P w = .ok ⟨w.heap.size, 0, none⟩ w' := fun f => by rw [show Array.map f (Array.range 0) = #[] from by simp]; exact k1
                simp [Instr.buildSlice, run_underlying hu, Go.sizeOf, typeInfo, hi, Instr.fill, k1']
              · have hk1 : (newRow e cr).run P w = .ok ⟨w.heap.size, 0, none⟩ (w.alloc (.cells cr e)) := rfl
                rw [hk1] at k1
                have hw' : w.alloc (.cells cr e) = w' := by cases k1; rfl
                rw [← hw']
                rw [← his] at g1' h0 hc1
                exact run_buildSlice w ty e len _ cr i zz hu hi hzz (by omega) (by omega) g1'
            refine ⟨_, w', c', hrun, ?_, k3, k4⟩
            exact .sl _ _ _ _ _ _ 0 _ _ k2 rfl (Nat.le_refl _) (.inl (by simp)) (fun _ => by simp; omega) (fun x hx => by cases hx; rfl)

theorem sound_mks {P : Program} {N c t a w h} (hh : HRel c w h) (ht : TRel N c t a) {ty : TypeId} {x y : Operand} {x' y' zero bytes} (hc : cOp P N (.makeSlice ty x y) = some (.mks x' y' zero bytes)) {v h'}
    (hs : opStep t h (.mks x' y' zero bytes) = some (v, h')) : Ok P c w h (Instr.makeSlice ty (a.eval x) (a.eval y)) v h' := by
  simp only [cOp] at hc
  split at hc
  case h_2 => cases hc
  case h_1 x'' y'' n0 z b hx hy hel =>
    cases hc
    obtain ⟨e, i, hu, hi, his, hib, hpos, hzl, hz⟩ := cElem_spec hel
    obtain ⟨i', zz, hi', hzz, h1, h2, h3⟩ := cZero_spec hz
    rw [hi] at hi'; cases hi'
    have r1 := opd_rel ht hx
    have r2 := opd_rel ht hy
    simp only [opStep] at hs
    generalize x'.ev t = xv at *
    generalize y'.ev t = yv at *
    generalize a.eval x = xc at *
    generalize a.eval y = yc at *
    split at hs
    case h_2 => cases hs
    case h_1 k n k' m =>
      split at hs
      case isFalse => cases hs
      case isTrue hcond =>
        obtain ⟨hn0, rfl, hb, hmx⟩ := hcond
        cases hs
        rw [r1.int_inv, r2.int_inv]
        have hzs : zz.cells.size = zero.length := by omega
        have e0 := els_zeros (h3 c.ro Pl.none) (cZero_ones hz) n.toNat
        rw [hzs] at e0
        obtain ⟨w', c', k1, k2, k3, k4⟩ := newRow_ok (P := P) hh e ((Array.range (n.toNat * zero.length)).map (zz.cells[· % zz.cells.size]!)) (.arr (List.replicate n.toNat zero) zero.length)
          (fun m' _ w' hw => arr_of_els (by rw [hzs]; exact e0) hw (by simp))
        refine ⟨.slice (some ⟨w.heap.size, 0, none⟩) n.toNat n.toNat, w', c', ?_, ?_, k3, k4⟩
        · have hk1 : ∀ cc, (newRow e cc).run P w = .ok ⟨w.heap.size, 0, none⟩ (w.alloc (.cells cc e)) := fun _ => rfl
          rw [hk1] at k1
          have hw' : w.alloc (.cells ((Array.range (n.toNat * zero.length)).map (zz.cells[· % zz.cells.size]!)) e) = w' := by cases k1; rfl
          rw [← hw']
          have hr := run_make (P := P) w ty e i zz hu hi hzz k k' n n hn0 (Int.le_refl _) (by rw [hib, Int.mul_comm]; omega) (by omega)
          rw [hr]
          unfold madeCells
          rw [show i.size = zero.length by omega]
        · exact .sl _ _ _ _ _ _ 0 _ _ k2 rfl (Nat.le_refl _) (.inl (by simp)) (fun _ => by simp) (fun x hx => by cases hx; rfl)

end Sx
