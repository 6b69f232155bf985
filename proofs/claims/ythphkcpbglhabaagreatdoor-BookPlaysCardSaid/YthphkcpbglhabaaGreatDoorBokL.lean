/-
  Layer 18, part L: BookPlays.
-/
import Derived.Test.YthphkcpbglhabaaGreatDoorBokI
namespace Go.Proofs.YthphkcpbglhabaaGreatDoor
open Sx Go
set_option maxRecDepth 100000
set_option linter.unusedSimpArgs false
set_option linter.unusedVariables false
set_option linter.unnecessarySimpa false
attribute [local simp] stepV condR boundsC appendG appendO copyV srcC guardB isCall opStep Opd.ev put readAt aBin aUn args0 V.celled V.ones V.one V.cells putAt bounds bound1 elemsOf srcOf appendV fillAt fillEl V.pures V.pure unwind evs ARes.ev mkRes V.ren V.renL O.ren eqCells eq1 aEq aMM hasTy hasTyN okTy mmGo Known HLe OLe VsLe.refl VLe.refl VLe.cap Stay VsLe V.frz V.frzL O.frz fr clearV rn KnownR Objs OLeO ObjsE nm back setAll ren_ite take_map_len List.take_of_length_le
attribute [local simp ↓] upd_app tl_cons tl_nil
attribute [local simp] encS_ren encS_ones encS_len encS_take encN_ren encN_ones KnownS VLe.refl

section
variable {X : List O} {L : List Nat} {d bk m : Nat} {us : List Bs} {st : BSt} {fu : Int} {Z : List O}
theorem BookL.more (h : BookL X L d bk m us st fu Z) (o : O) : BookL X (Z.length :: L) d bk m us st fu (Z ++ [o]) := by
  obtain ⟨lg, lts, h1, h2, h3, h4, h5, hbL⟩ := h
  have := h2.disk.lts bk (by simp)
  refine ⟨lg, lts, h1, (h2.more o).sub (fun i hi => ?_), getA h3 _, h4, h5, fun hm => ?_⟩
  · simp only [List.mem_cons] at hi ⊢
    rcases hi with hi | hi | hi
    · exact .inr (.inl hi)
    · exact .inl hi
    · exact .inr (.inr hi)
  · rcases List.mem_cons.1 hm with hm | hm
    · omega
    · exact hbL hm
theorem BookL.put (h : BookL X L d bk m us st fu Z) {i : Nat} (hi : i ∈ L) (o : O) : BookL X L d bk m us st fu (Z.set i o) := by
  obtain ⟨lg, lts, h1, h2, h3, h4, h5, hbL⟩ := h
  exact ⟨lg, lts, h1, h2.put (List.mem_cons_of_mem _ hi) o, by unfold BookAt; rw [setN (fun e => hbL (by rw [← e]; exact hi))]; exact h3, h4, h5, hbL⟩
theorem BookL.sub (h : BookL X L d bk m us st fu Z) {L' : List Nat} (hs : ∀ i ∈ L', i ∈ L) : BookL X L' d bk m us st fu Z := by
  obtain ⟨lg, lts, h1, h2, h3, h4, h5, hbL⟩ := h
  refine ⟨lg, lts, h1, h2.sub (fun i hi => ?_), h3, h4, h5, fun hm => hbL (hs _ hm)⟩
  rcases List.mem_cons.1 hi with hi | hi
  · exact List.mem_cons.2 (.inl hi)
  · exact List.mem_cons_of_mem _ (hs _ hi)
theorem BookL.fuse (h : BookL X L d bk m us st fu Z) (n : Nat) (hn : n < 256) :
    Tri Tryz.prog 18 [.ptr d 0, .int .i64 n] Z (fun v W => v = .int .i64 0 ∧ BookL X L d bk m us st n W ∧ StayL L Z W) := by
  obtain ⟨lg, lts, h1, ⟨a, ho, na, naL, nlL, hlog⟩, h3, h4, h5, hbL⟩ := h
  refine (fuse_own ho n (by omega)).mono fun v W ⟨g1, g2, g3⟩ => ⟨g1, ⟨lg, lts, h1, ⟨a, ?_, na, naL, nlL, hlog.stay g3⟩, (g3 bk (by simp)).trans h3, h4, h5, hbL⟩, g3.tl.tl.tl⟩
  have e : (if (n : Int) < -1 then (-1 : Int) else n) = n := if_neg (by omega)
  rw [e] at g2
  exact g2
theorem BookL.mem (h : BookL X L d bk m us st fu Z) : ∀ i ∈ L, i < Z.length := by
  obtain ⟨lg, lts, h1, h2, h3, h4, h5, hbL⟩ := h
  exact fun i hi => h2.disk.lts i (List.mem_cons_of_mem _ hi)
theorem BookL.pos (h : BookL X L d bk m us st fu Z) : 0 ≤ st.1 := by
  obtain ⟨lg, lts, h1, h2, h3, h4, h5, hbL⟩ := h
  rcases h5 with ⟨-, rfl⟩ | ⟨h5, -⟩
  · simp
  · exact (mayB_spec h5).1
end
theorem Torn.sub {X : List O} {L : List Nat} {d M : Nat} {off : Bool} {P : BSt → Prop} {Z : List O} (h : Torn X L d M off P Z) {L' : List Nat} (hs : ∀ i ∈ L', i ∈ L) : Torn X L' d M off P Z := by
  obtain ⟨m, gs, g, k, fu, h1, h2⟩ := h
  exact ⟨m, gs, g, k, fu, h1.sub hs, h2⟩
theorem Torn.put {X : List O} {L : List Nat} {d M : Nat} {off : Bool} {P : BSt → Prop} {Z : List O} (h : Torn X L d M off P Z) {i : Nat} (hi : i ∈ L) (o : O) : Torn X L d M off P (Z.set i o) := by
  obtain ⟨m, gs, g, k, fu, h1, h2⟩ := h
  exact ⟨m, gs, g, k, fu, h1.put hi o, h2⟩
theorem Torn.off {X : List O} {L : List Nat} {d M : Nat} {off : Bool} {P : BSt → Prop} {Z : List O} (h : Torn X L d M off P Z) : Tri Tryz.prog 17 [.ptr d 0] Z (fun v H => v = .bool off ∧ H = Z) := by
  obtain ⟨m, gs, g, k, fu, h1, h2⟩ := h
  exact off_own h1
theorem and15 (n : Int) : ∃ k : Nat, iAnd .i64 n 15 = (k : Int) ∧ k < 256 := by
  have h : ((BitVec.ofInt 64 n &&& BitVec.ofInt 64 15).toNat) ≤ 15 := by
    rw [BitVec.toNat_and]
    exact Nat.le_trans Nat.and_le_right (by decide)
  refine ⟨_, ?_, Nat.lt_of_le_of_lt h (by decide)⟩
  rw [iAnd64, wrap_small (by omega) (by omega)]
def rowB (st : BSt) : O := .row [.int .i64 st.1, .vs (st.2.map encN) 1]

set_option maxHeartbeats 4000000 in
theorem plays_law (l : List ActB) : Tri Tryz.prog 4 [.vs (l.map encA) 4] [] (fun v H => v = .bool true ∧ H = []) := by
  refine Tri.of_run' Tryz.func4 rfl c4_ok (by simp [Tryz.ntmps4]) ?_
  have hfin : ∀ {k t h}, AtEnd k → t 2 = .bool true → Run ⟨Tryz.prog, 4, Tryz.f4.ntmps, [], fun v H => v = .bool true ∧ H = []⟩ ⟨k, t, h⟩ := by
    intro k t h hk h2
    refine Run.ret0 rfl Tryz.func4 r4_ok hk (by simp [r4]; rfl) ?_ (by simp [h2])
    exact ⟨by simp [h2], rfl⟩
  (repeat (first | refine Run.adm rfl ?_ | refine Run.seq ?_ | ((first | apply Run.opS rfl | apply Run.condS); (· (simp -implicitDefEqProofs; first | exact ⟨rfl, rfl⟩ | exact rfl)))))
  refine Run.opC rfl rfl rfl (new_own []) ?_
  rintro v Y0 ⟨d, rfl, h0⟩
  (repeat (first | refine Run.adm rfl ?_ | refine Run.seq ?_ | ((first | apply Run.opS rfl | apply Run.condS); (· (simp -implicitDefEqProofs; first | exact ⟨rfl, rfl⟩ | exact rfl)))))
  refine Run.opC rfl (by simp) rfl (bopen_new h0) ?_
  rintro v Y1 ⟨bk, rfl, h1, -⟩
  (repeat (first | refine Run.adm rfl ?_ | refine Run.seq ?_ | ((first | apply Run.opS rfl | apply Run.condS); (· (simp -implicitDefEqProofs; first | exact ⟨rfl, rfl⟩ | exact rfl)))))
  refine Run.leH (Y1 ++ [rowB (0, [])]) (by
    have e : (Y1 ++ [O.row [V.int .i64 0, .nils]]).set Y1.length (O.row [V.int .i64 0, .nils]) = Y1 ++ [O.row [V.int .i64 0, .nils]] := by simp
    first
      | exact HLe.app1 _ ⟨VLe.refl _, VLe.nils _, trivial⟩
      | (rw [e]; exact HLe.app1 _ ⟨VLe.refl _, VLe.nils _, trivial⟩)) ?_
  obtain ⟨lq, hlq⟩ : ∃ lq, lq = Y1.length := ⟨_, rfl⟩
  have h2 := h1.more (rowB (0, []))
  have q2 : (Y1 ++ [rowB (0, [])])[lq]? = some (rowB (0, [])) := by rw [hlq]; simp
  rw [← hlq] at h2 ⊢
  refine Run.sl [(0, .vs (l.map encA) 4), (3, .ptr d 0), (4, .ptr bk 0), (6, .ptr lq 0), (7, .int .i64 (0 : Nat))] (by simp [hlq]) ?_
  refine Run.loopS (fun (x : Nat × Nat × BSt × List O) => ([(0, .vs (l.map encA) 4), (3, .ptr d 0), (4, .ptr x.2.1 0), (6, .ptr lq 0), (7, .int .i64 x.1)], x.2.2.2))
    (fun x => x.1 ≤ l.length ∧ x.1 ≤ 80 ∧ x.2.2.2[lq]? = some (rowB x.2.2.1) ∧ ∃ m us fu, 16 * m + us.length ≤ 17 * x.1 ∧ us.length ≤ 16 ∧ BookL [] [lq] d x.2.1 m us x.2.2.1 fu x.2.2.2) (fun x => l.length - x.1) ?_ (0, bk, (0, []), _) ⟨Nat.zero_le _, by simp, q2, 0, [], _, by simp, by simp, h2⟩
  clear h0 h1 h2 q2 hlq
  rintro ⟨i, bk, st, Z⟩ ⟨hi, hi80, hq, m, us, fu, hmu, hus, hZ⟩ ih
  simp only at hi hi80 hq hmu hus hZ ih ⊢
  have hst := hZ.len
  have hpos := hZ.pos
  obtain ⟨hlqz, -⟩ := List.getElem?_eq_some_iff.1 hq
  by_cases hlt : i < l.length
  rotate_left
  · have : i = l.length := by omega
    subst this
    (repeat (first | refine Run.adm rfl ?_ | refine Run.seq ?_ | ((first | apply Run.opS rfl | apply Run.condS); (· (simp -implicitDefEqProofs; first | exact ⟨rfl, rfl⟩ | exact rfl)))))
    refine Run.opC rfl rfl rfl (bawake_at _) ?_
    rintro v H ⟨rfl, rfl⟩
    (repeat (first | refine Run.adm rfl ?_ | refine Run.seq ?_ | ((first | apply Run.opS rfl | apply Run.condS); (· (simp -implicitDefEqProofs; first | exact ⟨rfl, rfl⟩ | exact rfl)))))
    exact hfin trivial (by simp)
  have hlt' : (i : Int) < l.length := by omega
  by_cases hbig : i < 80
  rotate_left
  · have hbig' : ¬ (i : Int) < 80 := by omega
    (repeat (first | refine Run.adm rfl ?_ | refine Run.seq ?_ | ((first | apply Run.opS rfl | apply Run.condS); (· (simp -implicitDefEqProofs [hlt, hlt', hbig, hbig']; first | exact ⟨rfl, rfl⟩ | exact rfl)))))
    refine Run.opC rfl rfl rfl (bawake_at _) ?_
    rintro v H ⟨rfl, rfl⟩
    (repeat (first | refine Run.adm rfl ?_ | refine Run.seq ?_ | ((first | apply Run.opS rfl | apply Run.condS); (· (simp -implicitDefEqProofs; first | exact ⟨rfl, rfl⟩ | exact rfl)))))
    exact hfin trivial (by simp)
  have hbig' : (i : Int) < 80 := by omega
  obtain ⟨a, ha, hai, -, -⟩ := getL hlt
  have hw := wrap_small (n := (i : Int) + 1) (by omega) (by omega)
  (repeat (first | refine Run.adm rfl ?_ | refine Run.seq ?_ | ((first | apply Run.opS rfl | apply Run.condS); (· (simp -implicitDefEqProofs [hlt, hlt', hbig, hbig', ha, hai, encA]; first | exact ⟨rfl, rfl⟩ | exact rfl)))))
  by_cases hl1 : 70 < a.ids.length
  · have hl1' : (70 : Int) < a.ids.length := by omega
    (repeat (first | refine Run.adm rfl ?_ | refine Run.seq ?_ | ((first | apply Run.opS rfl | apply Run.condS); (· (simp -implicitDefEqProofs [hl1, hl1']; first | exact ⟨rfl, rfl⟩ | exact rfl)))))
    refine Run.opC rfl rfl rfl (bawake_at _) ?_
    rintro v H ⟨rfl, rfl⟩
    (repeat (first | refine Run.adm rfl ?_ | refine Run.seq ?_ | ((first | apply Run.opS rfl | apply Run.condS); (· (simp -implicitDefEqProofs; first | exact ⟨rfl, rfl⟩ | exact rfl)))))
    exact hfin trivial (by simp)
  have hl1' : ¬ (70 : Int) < a.ids.length := by omega
  by_cases hl2 : 10 < a.keep.length
  · have hl2' : (10 : Int) < a.keep.length := by omega
    (repeat (first | refine Run.adm rfl ?_ | refine Run.seq ?_ | ((first | apply Run.opS rfl | apply Run.condS); (· (simp -implicitDefEqProofs [hl1, hl1', hl2, hl2']; first | exact ⟨rfl, rfl⟩ | exact rfl)))))
    refine Run.opC rfl rfl rfl (bawake_at _) ?_
    rintro v H ⟨rfl, rfl⟩
    (repeat (first | refine Run.adm rfl ?_ | refine Run.seq ?_ | ((first | apply Run.opS rfl | apply Run.condS); (· (simp -implicitDefEqProofs; first | exact ⟨rfl, rfl⟩ | exact rfl)))))
    exact hfin trivial (by simp)
  have hl2' : ¬ (10 : Int) < a.keep.length := by omega
  have q1 : (Z ++ [O.row (encA a)])[lq]? = some (rowB st) := getA hq _
  unfold encA rowB at q1
  (repeat (first | refine Run.adm rfl ?_ | refine Run.seq ?_ | ((first | apply Run.opS rfl | apply Run.condS); (· (simp -implicitDefEqProofs [hl1, hl1', hl2, hl2', q1]; first | exact ⟨rfl, rfl⟩ | exact rfl)))))
  have hW0 := (hZ.more (.row (encA a))).more (rowB st)
  have hD1 : ∀ {k : List AItem} {bk' m' : Nat} {us' : List Bs} {st' : BSt} {fu' : Int} {L' : List Nat} {W : List O}, BookL [] L' d bk' m' us' st' fu' W → W[lq]? = some (rowB st') →
      Run ⟨Tryz.prog, 4, Tryz.f4.ntmps, [], fun v H => v = .bool true ∧ H = []⟩ ⟨k, tl [(0, .vs (l.map encA) 4), (3, .ptr d 0), (4, .ptr bk' 0), (6, .ptr lq 0), (7, .int .i64 i), (156, .bool false)], W⟩ →
      Run ⟨Tryz.prog, 4, Tryz.f4.ntmps, [], fun v H => v = .bool true ∧ H = []⟩ ⟨.code (.drawn c4d1) :: k, tl [(0, .vs (l.map encA) 4), (3, .ptr d 0), (4, .ptr bk' 0), (6, .ptr lq 0), (7, .int .i64 i)], W⟩ := by
    intro k bk' m' us' st' fu' L' W hB hqw hr
    have hsl := hB.len
    unfold rowB at hqw
    refine Run.quiet prog_mixed (by kernel_rfl) ?_
    (repeat (first | refine execQ_E rfl ?_ | (apply execQ_S rfl; (· (simp -implicitDefEqProofs; exact ⟨rfl, rfl⟩)))))
    refine execQ_C rfl rfl rfl hB.move ?_
    (repeat (first | refine execQ_E rfl ?_ | (apply execQ_S rfl; (· (simp -implicitDefEqProofs [hqw]; exact ⟨rfl, rfl⟩)))))
    refine execQ_C rfl (by simp) rfl hB.ids ?_
    (repeat (first | refine execQ_E rfl ?_ | (apply execQ_S rfl; (· (simp -implicitDefEqProofs [hqw]; exact ⟨rfl, rfl⟩)))))
    refine execQ_C rfl (by simp) rfl (samei_at st'.2 st'.2 (by omega) _) ?_
    (repeat (first | refine execQ_E rfl ?_ | (apply execQ_S rfl; (· (simp -implicitDefEqProofs; exact ⟨rfl, rfl⟩)))))
    refine Run.sl _ ?_ hr
    simp
  refine run_to [(0, .vs (l.map encA) 4), (3, .ptr d 0), (4, .ptr bk 0), (6, .ptr lq 0), (7, .int .i64 i), (8, .ptr Z.length 0), (9, .ptr (Z.length + 1) 0), (58, .bool (!decide (a.kind = 1)))]
    (fun W => W[Z.length]? = some (O.row (encA a)) ∧ W[Z.length + 1]? = some (rowB st) ∧ W[lq]? = some (rowB st) ∧ BookL [] [Z.length + 1, Z.length, lq] d bk m us st fu W) (by simp) ⟨by simp [encA], by simp [rowB], getA hq _, by simpa [encA, rowB] using hW0⟩ ?_
  obtain ⟨l8, hl8⟩ : ∃ l8, l8 = Z.length := ⟨_, rfl⟩
  obtain ⟨l9, hl9⟩ : ∃ l9, l9 = Z.length + 1 := ⟨_, rfl⟩
  rw [← hl9, ← hl8]
  have n1 : l8 ≠ l9 := by omega
  have n2 : l8 ≠ lq := by omega
  have n3 : l9 ≠ lq := by omega
  clear hl8 hl9 hW0 q1 hZ hq hlqz
  rintro W ⟨w8, w9, wq, hW⟩
  unfold encA at w8
  unfold rowB at w9 wq
  refine Run.joinP (fun (_ : Unit) => ([(0, .vs (l.map encA) 4), (3, .ptr d 0), (4, .ptr bk 0), (6, .ptr lq 0), (7, .int .i64 i), (8, .ptr l8 0), (9, .ptr l9 0), (10, .bool (!decide (a.kind = 1) && !decide (a.kind = 2)))], W)) (fun _ => True) ?_ ?_
  rotate_left
  · intro k hr
    by_cases hk1 : a.kind = 1
    · (repeat (first | refine Run.adm rfl ?_ | refine Run.seq ?_ | ((first | apply Run.opS rfl | apply Run.condS); (· (simp -implicitDefEqProofs [hk1]; first | exact ⟨rfl, rfl⟩ | exact rfl)))))
      refine Run.sl _ ?_ (hr () trivial)
      simp [hk1]
    · (repeat (first | refine Run.adm rfl ?_ | refine Run.seq ?_ | ((first | apply Run.opS rfl | apply Run.condS); (· (simp -implicitDefEqProofs [hk1, w8]; first | exact ⟨rfl, rfl⟩ | exact rfl)))))
      refine Run.sl _ ?_ (hr () trivial)
      simp [hk1]
  rintro - -
  refine Run.seq ?_
  refine Run.joinP (fun (x : Bool × List O) => ([(0, .vs (l.map encA) 4), (3, .ptr d 0), (4, .ptr bk 0), (6, .ptr lq 0), (7, .int .i64 i), (8, .ptr l8 0), (9, .ptr l9 0), (10, .bool x.1)], x.2))
    (fun x => x.2[l8]? = some (.row (encA a)) ∧ ((x.1 = false ∧ ∃ st' m' us' fu', 16 * m' + us'.length ≤ 17 * (i + 1) ∧ us'.length ≤ 16 ∧ x.2[lq]? = some (rowB st') ∧ BookL [] [l9, l8, lq] d bk m' us' st' fu' x.2) ∨
      (x.1 = true ∧ x.2[lq]? = some (rowB st) ∧ ∃ M off mo, 16 * M ≤ 16 * m + us.length ∧ x.2[l9]? = some (rowB mo) ∧ Torn [] [l9, l8, lq] d M off (fun s => s = st ∨ s = mo) x.2))) ?_ ?_
  rotate_left
  · intro k hr
    by_cases hk1 : a.kind = 1
    · (repeat (first | refine Run.adm rfl ?_ | refine Run.seq ?_ | ((first | apply Run.opS rfl | apply Run.condS); (· (simp -implicitDefEqProofs [hk1, w8, wq]; first | exact ⟨rfl, rfl⟩ | exact rfl)))))
      refine Run.opC rfl rfl rfl (rset_at st hpos a.move a.ids (by omega) _) ?_
      rintro v H ⟨hv, hH⟩
      rw [hH]
      clear hH H
      obtain ⟨l11, hl11⟩ : ∃ l11, l11 = W.length := ⟨_, rfl⟩
      have n4 : l8 ≠ l11 := by have := (List.getElem?_eq_some_iff.1 w8).1; omega
      have n5 : l9 ≠ l11 := by have := (List.getElem?_eq_some_iff.1 w9).1; omega
      have n6 : lq ≠ l11 := by have := (List.getElem?_eq_some_iff.1 wq).1; omega
      by_cases hs : setB st a.move a.ids = true
      · rw [if_pos hs] at hv
        subst hv
        have hs' : st.1 ≤ a.move ∧ mayB a.move a.ids = true := by simpa [setB] using hs
        have x8 := getA w8 [rowB (a.move, a.ids)]
        have xq := getA wq [rowB (a.move, a.ids)]
        have hX := hW.more (rowB (a.move, a.ids))
        have hset := set_tri hX hus (by omega) a.move a.ids (by omega)
        rw [← hl11] at hset
        unfold encB
        unfold rowB at x8 hset xq
        (repeat (first | refine Run.adm rfl ?_ | refine Run.seq ?_ | ((first | apply Run.opS rfl | apply Run.condS); (· (simp -implicitDefEqProofs [x8]; first | exact ⟨rfl, rfl⟩ | exact rfl)))))
        rw [← hl11]
        refine Run.opC rfl rfl rfl hset ?_
        rintro v U ⟨sU, ⟨e, -⟩ | ⟨-, -, rfl, m', us', fu', b1, b2, -, hU⟩ | ⟨-, -, rfl, -, M, hM, hU⟩⟩
        · exact absurd hs' e
        · have u8 := (sU l8 (by simp)).trans x8
          have u11 : U[l11]? = some (O.row [.int .i64 a.move, .vs (a.ids.map encN) 1]) := (sU l11 (by simp)).trans (by simp [hl11])
          have u11' : ∀ o, (U.set l9 o)[l11]? = some (O.row [.int .i64 a.move, .vs (a.ids.map encN) 1]) := fun o => (setN n5 o).trans u11
          have u9 := (sU l9 (by simp)).trans (getA w9 _)
          have uq := (sU lq (by simp)).trans xq
          have uq' : ∀ o, (U.set l9 o)[lq]? = some (O.row [.int .i64 st.1, .vs (st.2.map encN) 1]) := fun o => (setN n3 o).trans uq
          (repeat (first | refine Run.adm rfl ?_ | refine Run.seq ?_ | ((first | apply Run.opS rfl | apply Run.condS); (· (simp -implicitDefEqProofs [u9, uq, u11, u11', uq']; first | exact ⟨rfl, rfl⟩ | exact rfl)))))
          refine Run.sl _ ?_ (hr (false, (U.set l9 (rowB (a.move, a.ids))).set lq (rowB (a.move, a.ids))) ⟨?_, .inl ⟨rfl, (a.move, a.ids), m', us', fu', by omega, b2, setG (uq' _) _, ((hU.put (by simp) _).put (by simp) _).sub (by simp)⟩⟩)
          · simp [hk1]
          · exact (setN n2.symm _).trans ((setN n1.symm _).trans u8)
        · have u8 := (sU l8 (by simp)).trans x8
          have u11 : U[l11]? = some (O.row [.int .i64 a.move, .vs (a.ids.map encN) 1]) := (sU l11 (by simp)).trans (by simp [hl11])
          have u9 := (sU l9 (by simp)).trans (getA w9 _)
          have uq := (sU lq (by simp)).trans xq
          (repeat (first | refine Run.adm rfl ?_ | refine Run.seq ?_ | ((first | apply Run.opS rfl | apply Run.condS); (· (simp -implicitDefEqProofs; first | exact ⟨rfl, rfl⟩ | exact rfl)))))
          refine Run.opC rfl (by simp) rfl hU.off ?_
          rintro v H ⟨rfl, rfl⟩
          (repeat (first | refine Run.adm rfl ?_ | refine Run.seq ?_ | ((first | apply Run.opS rfl | apply Run.condS); (· (simp -implicitDefEqProofs [u9, uq, u11]; first | exact ⟨rfl, rfl⟩ | exact rfl)))))
          refine Run.sl _ ?_ (hr (true, H.set l9 (rowB (a.move, a.ids))) ⟨(setN n1.symm _).trans u8, .inr ⟨rfl, (setN n3 _).trans uq, M, true, (a.move, a.ids), hM, setG u9 _, (hU.put (by simp) _).sub (by simp)⟩⟩)
          simp [hk1]
      · have hs2 : setB st a.move a.ids = false := by simpa using hs
        rw [hs2] at hv
        simp only [Bool.false_eq_true, if_false] at hv
        subst hv
        have hs' : ¬ (st.1 ≤ a.move ∧ mayB a.move a.ids = true) := fun h => hs (by simpa [setB] using h)
        have x8 := getA w8 [rowB st]
        have xq := getA wq [rowB st]
        have hX := hW.more (rowB st)
        have hset := set_tri hX hus (by omega) a.move a.ids (by omega)
        rw [← hl11] at hset
        unfold encB
        unfold rowB at x8 hset xq
        (repeat (first | refine Run.adm rfl ?_ | refine Run.seq ?_ | ((first | apply Run.opS rfl | apply Run.condS); (· (simp -implicitDefEqProofs [x8]; first | exact ⟨rfl, rfl⟩ | exact rfl)))))
        rw [← hl11]
        refine Run.opC rfl rfl rfl hset ?_
        rintro v U ⟨sU, ⟨-, rfl, hU⟩ | ⟨e, e2, -⟩ | ⟨e, e2, -⟩⟩
        rotate_left
        · exact absurd ⟨e, e2⟩ hs'
        · exact absurd ⟨e, e2⟩ hs'
        have u8 := (sU l8 (by simp)).trans x8
        have u11 : U[l11]? = some (O.row [.int .i64 st.1, .vs (st.2.map encN) 1]) := (sU l11 (by simp)).trans (by simp [hl11])
        have u11' : ∀ o, (U.set l9 o)[l11]? = some (O.row [.int .i64 st.1, .vs (st.2.map encN) 1]) := fun o => (setN n5 o).trans u11
        have u9 := (sU l9 (by simp)).trans (getA w9 _)
        have uq := (sU lq (by simp)).trans xq
        have uq' : ∀ o, (U.set l9 o)[lq]? = some (O.row [.int .i64 st.1, .vs (st.2.map encN) 1]) := fun o => (setN n3 o).trans uq
        (repeat (first | refine Run.adm rfl ?_ | refine Run.seq ?_ | ((first | apply Run.opS rfl | apply Run.condS); (· (simp -implicitDefEqProofs [u9, uq, u11, u11', uq']; first | exact ⟨rfl, rfl⟩ | exact rfl)))))
        refine Run.sl _ ?_ (hr (false, (U.set l9 (rowB st)).set lq (rowB st)) ⟨?_, .inl ⟨rfl, st, m, us, fu, by omega, hus, setG (uq' _) _, ((hU.put (by simp) _).put (by simp) _).sub (by simp)⟩⟩)
        · simp [hk1]
        · exact (setN n2.symm _).trans ((setN n1.symm _).trans u8)
    by_cases hk2 : a.kind = 2
    · obtain ⟨fz, hfz, hfz2⟩ := and15 a.move
      (repeat (first | refine Run.adm rfl ?_ | refine Run.seq ?_ | ((first | apply Run.opS rfl | apply Run.condS); (· (simp -implicitDefEqProofs [hk1, hk2, w8, hfz]; first | exact ⟨rfl, rfl⟩ | exact rfl)))))
      refine Run.opC rfl rfl rfl (hW.fuse fz hfz2) ?_
      rintro v W2 ⟨rfl, hW2, sW2⟩
      (repeat (first | refine Run.adm rfl ?_ | refine Run.seq ?_ | ((first | apply Run.opS rfl | apply Run.condS); (· (simp -implicitDefEqProofs; first | exact ⟨rfl, rfl⟩ | exact rfl)))))
      refine Run.sl _ ?_ (hr (false, W2) ⟨(sW2 l8 (by simp)).trans w8, .inl ⟨rfl, st, m, us, _, by omega, hus, (sW2 lq (by simp)).trans wq, hW2⟩⟩)
      simp [hk1, hk2]
    · (repeat (first | refine Run.adm rfl ?_ | refine Run.seq ?_ | ((first | apply Run.opS rfl | apply Run.condS); (· (simp -implicitDefEqProofs [hk1, hk2, w8]; first | exact ⟨rfl, rfl⟩ | exact rfl)))))
      refine Run.sl _ ?_ (hr (true, W) ⟨w8, .inr ⟨rfl, wq, m, false, st, by omega, w9, hW.torn (by omega) (.inl rfl)⟩⟩)
      simp [hk1, hk2]
  rintro ⟨ov, U⟩ ⟨v8, ⟨rfl, st2, m2, us2, fu2, hb1, hb2, vq, hV⟩ | ⟨rfl, vq, M, off, mo, hM, v9, hV⟩⟩
  · simp only at v8 vq hV ⊢
    (repeat (first | refine Run.adm rfl ?_ | refine Run.seq ?_ | ((first | apply Run.opS rfl | apply Run.condS); (· (simp -implicitDefEqProofs; first | exact ⟨rfl, rfl⟩ | exact rfl)))))
    refine Run.sl [(0, .vs (l.map encA) 4), (3, .ptr d 0), (4, .ptr bk 0), (6, .ptr lq 0), (7, .int .i64 i)] (by simp) (hD1 hV vq ?_)
    (repeat (first | refine Run.adm rfl ?_ | refine Run.seq ?_ | ((first | apply Run.opS rfl | apply Run.condS); (· (simp -implicitDefEqProofs; first | exact ⟨rfl, rfl⟩ | exact rfl)))))
    refine Run.sl _ ?_ (ih (i + 1, bk, st2, U) ⟨by simp only; omega, by simp only; omega, vq, m2, us2, fu2, by simp only; omega, hb2, hV.sub (by simp)⟩ (by simp only; omega))
    simp [hw]
  · simp only at v8 vq v9 hV ⊢
    unfold encA at v8
    (repeat (first | refine Run.adm rfl ?_ | refine Run.seq ?_ | ((first | apply Run.opS rfl | apply Run.condS); (· (simp -implicitDefEqProofs [v8]; first | exact ⟨rfl, rfl⟩ | exact rfl)))))
    refine Run.opC rfl rfl rfl (crash_torn hV (by omega) a.keep (by omega)) ?_
    rintro v U1 ⟨rfl, sU1, hU1⟩
    (repeat (first | refine Run.adm rfl ?_ | refine Run.seq ?_ | ((first | apply Run.opS rfl | apply Run.condS); (· (simp -implicitDefEqProofs; first | exact ⟨rfl, rfl⟩ | exact rfl)))))
    refine Run.opC rfl rfl rfl (again_tri (by omega) hU1) ?_
    rintro v U2 ⟨bk2, m2, us2, st2, hP, rfl, hm2, hus2, hB, sU2⟩
    have sT := sU1.trans sU2
    have yq := (sT lq (by simp)).trans vq
    have y9 := (sT l9 (by simp)).trans v9
    unfold rowB at yq y9
    have hsl := hB.len
    (repeat (first | refine Run.adm rfl ?_ | refine Run.seq ?_ | ((first | apply Run.opS rfl | apply Run.condS); (· (simp -implicitDefEqProofs; first | exact ⟨rfl, rfl⟩ | exact rfl)))))
    refine Run.sl [(0, .vs (l.map encA) 4), (3, .ptr d 0), (4, .ptr bk2 0), (6, .ptr lq 0), (7, .int .i64 i), (9, .ptr l9 0)] (by simp) ?_
    refine Run.quiet prog_mixed (by kernel_rfl) ?_
    (repeat (first | refine execQ_E rfl ?_ | (apply execQ_S rfl; (· (simp -implicitDefEqProofs; exact ⟨rfl, rfl⟩)))))
    refine execQ_C rfl rfl rfl hB.move ?_
    by_cases hc : st2 = st
    · subst hc
      (repeat (first | refine execQ_E rfl ?_ | (apply execQ_S rfl; (· (simp -implicitDefEqProofs [yq]; exact ⟨rfl, rfl⟩)))))
      refine execQ_C rfl (by simp) rfl hB.ids ?_
      (repeat (first | refine execQ_E rfl ?_ | (apply execQ_S rfl; (· (simp -implicitDefEqProofs [yq]; exact ⟨rfl, rfl⟩)))))
      refine execQ_C rfl (by simp) rfl (samei_at st2.2 st2.2 (by omega) _) ?_
      (repeat (first | refine execQ_E rfl ?_ | (apply execQ_S rfl; (· (simp -implicitDefEqProofs; exact ⟨rfl, rfl⟩)))))
      (repeat (first | refine Run.adm rfl ?_ | refine Run.seq ?_ | ((first | apply Run.opS rfl | apply Run.condS); (· (simp -implicitDefEqProofs; first | exact ⟨rfl, rfl⟩ | exact rfl)))))
      refine Run.sl [(0, .vs (l.map encA) 4), (3, .ptr d 0), (4, .ptr bk2 0), (6, .ptr lq 0), (7, .int .i64 i)] (by simp) (hD1 hB yq ?_)
      (repeat (first | refine Run.adm rfl ?_ | refine Run.seq ?_ | ((first | apply Run.opS rfl | apply Run.condS); (· (simp -implicitDefEqProofs; first | exact ⟨rfl, rfl⟩ | exact rfl)))))
      refine Run.sl _ ?_ (ih (i + 1, bk2, st2, U2) ⟨by simp only; omega, by simp only; omega, yq, m2, us2, -1, by simp only; omega, by omega, hB.sub (by simp)⟩ (by simp only; omega))
      simp [hw]
    · obtain rfl : st2 = mo := hP.resolve_left hc
      have zB := hB.put (i := lq) (by simp) (rowB st2)
      have zq : (U2.set lq (rowB st2))[lq]? = some (rowB st2) := setG yq _
      by_cases hm1 : st2.1 = st.1
      · have hi2 : ¬ st2.2 = st.2 := fun h => hc (Prod.ext hm1 h)
        (repeat (first | refine execQ_E rfl ?_ | (apply execQ_S rfl; (· (simp -implicitDefEqProofs [yq, hm1]; exact ⟨rfl, rfl⟩)))))
        refine execQ_C rfl (by simp) rfl hB.ids ?_
        (repeat (first | refine execQ_E rfl ?_ | (apply execQ_S rfl; (· (simp -implicitDefEqProofs [yq]; exact ⟨rfl, rfl⟩)))))
        refine execQ_C rfl (by simp) rfl (samei_at st2.2 st.2 (by omega) _) ?_
        (repeat (first | refine execQ_E rfl ?_ | (apply execQ_S rfl; (· (simp -implicitDefEqProofs [hi2]; exact ⟨rfl, rfl⟩)))))
        (repeat (first | refine Run.adm rfl ?_ | refine Run.seq ?_ | ((first | apply Run.opS rfl | apply Run.condS); (· (simp -implicitDefEqProofs [yq, y9, hi2]; first | exact ⟨rfl, rfl⟩ | exact rfl)))))
        refine Run.sl [(0, .vs (l.map encA) 4), (3, .ptr d 0), (4, .ptr bk2 0), (6, .ptr lq 0), (7, .int .i64 i)] (by simp) (hD1 zB zq ?_)
        (repeat (first | refine Run.adm rfl ?_ | refine Run.seq ?_ | ((first | apply Run.opS rfl | apply Run.condS); (· (simp -implicitDefEqProofs; first | exact ⟨rfl, rfl⟩ | exact rfl)))))
        refine Run.sl _ ?_ (ih (i + 1, bk2, st2, _) ⟨by simp only; omega, by simp only; omega, zq, m2, us2, -1, by simp only; omega, by omega, zB.sub (by simp)⟩ (by simp only; omega))
        simp [hw]
      · (repeat (first | refine execQ_E rfl ?_ | (apply execQ_S rfl; (· (simp -implicitDefEqProofs [yq, hm1]; exact ⟨rfl, rfl⟩)))))
        (repeat (first | refine Run.adm rfl ?_ | refine Run.seq ?_ | ((first | apply Run.opS rfl | apply Run.condS); (· (simp -implicitDefEqProofs [yq, y9, hm1]; first | exact ⟨rfl, rfl⟩ | exact rfl)))))
        refine Run.sl [(0, .vs (l.map encA) 4), (3, .ptr d 0), (4, .ptr bk2 0), (6, .ptr lq 0), (7, .int .i64 i)] (by simp) (hD1 zB zq ?_)
        (repeat (first | refine Run.adm rfl ?_ | refine Run.seq ?_ | ((first | apply Run.opS rfl | apply Run.condS); (· (simp -implicitDefEqProofs; first | exact ⟨rfl, rfl⟩ | exact rfl)))))
        refine Run.sl _ ?_ (ih (i + 1, bk2, st2, _) ⟨by simp only; omega, by simp only; omega, zq, m2, us2, -1, by simp only; omega, by omega, zB.sub (by simp)⟩ (by simp only; omega))
        simp [hw]

end Go.Proofs.YthphkcpbglhabaaGreatDoor
