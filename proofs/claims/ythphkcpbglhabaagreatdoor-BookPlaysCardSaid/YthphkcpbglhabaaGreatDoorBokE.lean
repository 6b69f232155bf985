/-
  Layer 18, part E: Open.
-/
import Derived.Test.YthphkcpbglhabaaGreatDoorBokD
namespace Go.Proofs.YthphkcpbglhabaaGreatDoor
open Sx Go
set_option maxRecDepth 100000
set_option linter.unusedSimpArgs false
set_option linter.unusedVariables false
set_option linter.unnecessarySimpa false
attribute [local simp] stepV condR boundsC appendG appendO copyV srcC guardB isCall opStep Opd.ev put readAt aBin aUn args0 V.celled V.ones V.one V.cells putAt bounds bound1 elemsOf srcOf appendV fillAt fillEl V.pures V.pure unwind evs ARes.ev mkRes V.ren V.renL O.ren eqCells eq1 aEq aMM hasTy hasTyN okTy mmGo Known HLe OLe VsLe.refl VLe.refl VLe.cap Stay VsLe V.frz V.frzL O.frz fr clearV rn KnownR Objs OLeO ObjsE nm back setAll ren_ite take_map_len List.take_of_length_le
attribute [local simp ↓] upd_app tl_cons tl_nil
attribute [local simp] encS_ren encS_ones encS_len encS_take encN_ren encN_ones KnownS VLe.refl

abbrev BSt := Int × List Int
/-- records that may be -/
def AllRec (T : List Bs) : Prop := ∀ r ∈ T, ∃ st : BSt, mayB st.1 st.2 = true ∧ r = recB st.1 st.2
/-- what was set last -/
def LastIs (T : List Bs) (st : BSt) : Prop := (T = [] ∧ st = (0, [])) ∨ (mayB st.1 st.2 = true ∧ ∃ T', T = T' ++ [recB st.1 st.2])
theorem rec_len {st : BSt} (h : mayB st.1 st.2 = true) : (recB st.1 st.2).length ≤ 1000 := by
  obtain ⟨m1, m2, m3, m4⟩ := mayB_spec h
  have := bnbs_len (st.1 :: (st.2.length : Int) :: st.2)
  simp only [recB, List.length_cons] at this ⊢; omega
theorem AllRec.len {T : List Bs} (h : AllRec T) : ∀ r ∈ T, r.length ≤ 1000 := fun r hr => by
  obtain ⟨st, h1, rfl⟩ := h r hr
  exact rec_len h1
theorem LastIs.len {T : List Bs} {st : BSt} (h : LastIs T st) : st.2.length ≤ 64 := by
  rcases h with ⟨-, rfl⟩ | ⟨h, -⟩
  · simp
  · exact (mayB_spec h).2.2.1
theorem LastIs.snoc {T : List Bs} {st : BSt} (h : mayB st.1 st.2 = true) : LastIs (T ++ [recB st.1 st.2]) st := .inr ⟨h, T, rfl⟩
theorem HLe.app1 : ∀ (l : List O) {a b : O}, OLe a b → HLe (l ++ [a]) (l ++ [b])
  | [], _, _, h => ⟨h, trivial⟩
  | x :: l, _, _, h => ⟨OLe.refl x, HLe.app1 l h⟩

theorem bnb_inj {a b : Int} {r s : Bs} (ha : 0 ≤ a ∧ a ≤ 1099511627775) (hb : 0 ≤ b ∧ b ≤ 1099511627775) (h : bnb a ++ r = bnb b ++ s) : a = b ∧ r = s := by
  rw [bnb_vput ha.1 (by omega), bnb_vput hb.1 (by omega)] at h
  have h1 := vtake_put (n := a.toNat) (by omega) r
  have h2 := vtake_put (n := b.toNat) (by omega) s
  rw [h, h2] at h1
  have h3 : b.toNat = a.toNat := congrArg (·.1) h1
  refine ⟨by omega, ?_⟩
  rw [h3] at h
  exact List.append_cancel_left h
theorem bnbs_inj : ∀ {l k : List Int}, l.length = k.length → (∀ n ∈ l, 0 ≤ n ∧ n ≤ 1099511627775) → (∀ n ∈ k, 0 ≤ n ∧ n ≤ 1099511627775) → bnbs l = bnbs k → l = k
  | [], [], _, _, _, _ => rfl
  | [], _ :: _, h, _, _, _ => by simp at h
  | _ :: _, [], h, _, _, _ => by simp at h
  | a :: l, b :: k, h, ha, hb, he => by
    simp only [bnbs, List.flatMap_cons] at he
    obtain ⟨h1, h2⟩ := bnb_inj (ha a (by simp)) (hb b (by simp)) he
    rw [h1, bnbs_inj (by simpa using h) (fun n hn => ha n (by simp [hn])) (fun n hn => hb n (by simp [hn])) h2]
theorem recB_inj {a b : BSt} (ha : mayB a.1 a.2 = true) (hb : mayB b.1 b.2 = true) (h : recB a.1 a.2 = recB b.1 b.2) : a = b := by
  obtain ⟨a1, a2, a3, a4⟩ := mayB_spec ha
  obtain ⟨b1, b2, b3, b4⟩ := mayB_spec hb
  simp only [recB, bnbs, List.flatMap_cons] at h
  obtain ⟨h1, h2⟩ := bnb_inj ⟨a1, a2⟩ ⟨b1, b2⟩ h
  obtain ⟨h3, h4⟩ := bnb_inj ⟨by omega, by omega⟩ ⟨by omega, by omega⟩ h2
  have h5 : ∀ {l : List Int}, (∀ (i : Nat) (n : Int), l[i]? = some n → 1 ≤ n ∧ n ≤ 1099511627775) → ∀ n ∈ l, 0 ≤ n ∧ n ≤ 1099511627775 := fun hl n hn => by
    obtain ⟨i, hi⟩ := List.mem_iff_getElem?.1 hn
    have := hl i n hi; omega
  have := bnbs_inj (by omega) (h5 a4) (h5 b4) h4
  exact Prod.ext h1 this
theorem LastIs.unique {T : List Bs} {a b : BSt} (ha : LastIs T a) (hb : LastIs T b) : a = b := by
  rcases ha with ⟨h1, rfl⟩ | ⟨h1, T1, h2⟩
  · rcases hb with ⟨-, rfl⟩ | ⟨-, T2, h4⟩
    · rfl
    · rw [h1] at h4; simp at h4
  · rcases hb with ⟨h3, -⟩ | ⟨h3, T2, h4⟩
    · rw [h3] at h2; simp at h2
    · rw [h2] at h4
      have := List.append_inj' h4 rfl
      exact recB_inj h1 h3 (by simpa using this.2)
theorem above_last {A : List LF} {f : LF} (h : Ris (A ++ [f])) : aboveF (f.num : Int) (A ++ [f]) = [f] := by
  obtain ⟨m1, -⟩ := h.mid
  unfold aboveF
  rw [List.filter_append]
  have : A.filter (fun g => decide ((f.num : Int) ≤ (g.num : Int))) = [] := by
    rw [List.filter_eq_nil_iff]
    intro a ha
    have := m1 a ha
    simp; omega
  rw [this]
  simp
theorem stayT_le (b : Int) (ts : List (Bs × Nat)) : (stayT b ts).length ≤ ts.length := stayT_len b ts

/-- a book of one's own: one file, of so many records; L: objects that it does not touch -/
def BookL (X : List O) (L : List Nat) (d bk m : Nat) (us : List Bs) (st : BSt) (fu : Int) (Z : List O) : Prop :=
  ∃ lg lts, lts.length ≤ 1000 + 16 * m + us.length ∧ WalOwn X (bk :: L) d (LD [⟨m, us.flatMap frmB, (us.flatMap frmB).length⟩] fu false) lg lts m Z ∧ BookAt Z bk lg st.1 st.2 us.length ∧ AllRec us ∧ LastIs us st ∧ bk ∉ L
theorem Own.lts {X L d D Y} (h : Own X L d D Y) : ∀ i ∈ L, i < Y.length := fun _ hi => h.lt hi
theorem stay_app {L : List Nat} {Y Z : List O} (h : StayL L Y Z) (hl : ∀ i ∈ L, i < Z.length) (o : O) : StayL L Y (Z ++ [o]) := fun i hi => (List.getElem?_append_left (hl i hi)).trans (h i hi)

theorem bopen_gen {X : List O} {L : List Nat} {d last : Nat} {fs : List LF} {T : List Bs} {st : BSt} {Y : List O} (h : Own X L d (LD fs (-1) false) Y) (hR : Ris fs) (hRl : ∀ f ∈ fs, f.num < last) (hla9 : last < 100)
    (o1 : (opnT fs).map (·.1) = T) (o2 : opnN 0 fs = last) (hbb : ∀ f ∈ fs, f.bytes.length ≤ 4194304) (hr : AllRec T) (hl : T.length ≤ 1000) (hst : LastIs T st) :
    Tri Tryz.prog 9 [.ptr d 0] Y (fun v Z => ∃ bk, v = .tup [.ptr bk 0, .int .i64 0] ∧ BookL X L d bk last (if T = [] then [] else [recB st.1 st.2]) st (-1) Z ∧ StayL L Y Z) := by
  have hlen : (opnT fs).length ≤ 1000 := by
    have := congrArg List.length o1; rw [List.length_map] at this; omega
  have hk0 : keepF 0 fs = fs := List.filter_eq_self.2 fun f _ => by simp
  have hop := open_own (frm := 0) h hR (by decide) (fun f hf => by have := hRl f hf; omega) hbb (by omega)
  rw [hk0, o2] at hop
  generalize hlts : opnT fs = lts at *
  refine Tri.of_run' Tryz.func9 rfl c9_ok (by simp [Tryz.ntmps9]) ?_
  (repeat (first | refine Run.adm rfl ?_ | refine Run.seq ?_ | ((first | apply Run.opS rfl | apply Run.condS); (· (simp -implicitDefEqProofs; first | exact ⟨rfl, rfl⟩ | exact rfl)))))
  refine Run.opC rfl rfl rfl hop ?_
  rintro v Z ⟨lg, rfl, -, hZ, stZ⟩
  (repeat (first | refine Run.adm rfl ?_ | refine Run.seq ?_ | ((first | apply Run.opS rfl | apply Run.condS); (· (simp -implicitDefEqProofs; first | exact ⟨rfl, rfl⟩ | exact rfl)))))
  refine Run.leH (Z ++ [O.row [V.ptr lg 0, V.int .i64 0, V.vs (([] : List Int).map encN) 1, V.int .i64 0]]) (HLe.app1 _ ⟨VLe.refl _, VLe.refl _, VLe.nils _, VLe.refl _, trivial⟩) ?_
  have hZ1 := hZ.more (O.row [V.ptr lg 0, V.int .i64 0, V.vs (([] : List Int).map encN) 1, V.int .i64 0])
  refine Run.opC rfl rfl rfl (WalOwn.all hZ1 (by omega)) ?_
  rintro v W ⟨rfl, hW, stW⟩
  obtain ⟨bk, hbk⟩ : ∃ bk, bk = Z.length := ⟨_, rfl⟩
  rw [← hbk] at hW stW
  have hbL : bk ∉ L := fun hm => by have := hZ.disk.lts bk hm; omega
  have sW : StayL L Y W := (stay_app stZ (fun i hi => hZ.disk.lts i hi) _).trans (stW.tl)
  have w1 : BookAt W bk lg 0 [] 0 := (stW bk (by simp)).trans (by simp [hbk])
  rw [o1]
  have htl : T.length ≤ 1000 := by omega
  have hmapl : ((T.map encS).length : Int) = T.length := by simp
  (repeat (first | refine Run.adm rfl ?_ | refine Run.seq ?_ | ((first | apply Run.opS rfl | apply Run.condS); (· (simp -implicitDefEqProofs [hmapl]; first | exact ⟨rfl, rfl⟩ | exact rfl)))))
  refine Run.sl [(4, .ptr lg 0), (5, .int .i64 0), (6, .ptr bk 0), (7, .vs (T.map encS) 1), (24, .vs (T.map encS) 1), (25, .int .i64 T.length), (26, .int .i64 (0 : Nat))] (by simp [hbk]) ?_
  refine Run.loopS (fun (x : Nat × BSt × List O) => ([(4, .ptr lg 0), (5, .int .i64 0), (6, .ptr bk 0), (7, .vs (T.map encS) 1), (24, .vs (T.map encS) 1), (25, .int .i64 T.length), (26, .int .i64 x.1)], x.2.2))
    (fun x => x.1 ≤ T.length ∧ StayL L Y x.2.2 ∧ WalOwn X (bk :: L) d (LD (fs ++ [⟨last, [], 0⟩]) (-1) false) lg lts last x.2.2 ∧ BookAt x.2.2 bk lg x.2.1.1 x.2.1.2 0 ∧ LastIs (T.take x.1) x.2.1) (fun x => T.length - x.1) ?_ (0, (0, []), W) ⟨Nat.zero_le _, sW, hW, w1, .inl ⟨rfl, rfl⟩⟩
  rintro ⟨i, ⟨mv0, ids0⟩, U⟩ ⟨hi, sU, hU, u1, hla⟩ ih
  simp only at hi sU hU u1 hla ih ⊢
  by_cases hlt : i < T.length
  · obtain ⟨r, hx, hxi, -, hmem⟩ := getL hlt
    have hlt' : (i : Int) < T.length := by omega
    have hw := wrap_small (n := (i : Int) + 1) (by omega) (by omega)
    obtain ⟨⟨mv, ids⟩, hmb, rfl⟩ := hr r hmem
    have hnx : T.take (i + 1) = T.take i ++ [recB mv ids] := by rw [List.take_add_one, hx]; rfl
    (repeat (first | refine Run.adm rfl ?_ | refine Run.seq ?_ | ((first | apply Run.opS rfl | apply Run.condS); (· (simp -implicitDefEqProofs [hlt, hlt', hx, hxi, encS]; first | exact ⟨rfl, rfl⟩ | exact rfl)))))
    refine Run.opC rfl rfl rfl (bread_tri U mv ids hmb) ?_
    rintro v V1 ⟨rfl, hV⟩
    obtain ⟨hV1, sV⟩ := hU.keep hV
    have v1 : V1[bk]? = some _ := hV.get u1 (by simp)
    have v2 : ∀ o, (V1.set bk o)[bk]? = some o := fun o => setG v1 o
    (repeat (first | refine Run.adm rfl ?_ | refine Run.seq ?_ | ((first | apply Run.opS rfl | apply Run.condS); (· (simp -implicitDefEqProofs [v1, v2]; first | exact ⟨rfl, rfl⟩ | exact rfl)))))
    refine Run.sl _ ?_ (ih (i + 1, (mv, ids), V1.set bk (.row [.ptr lg 0, .int .i64 mv, .vs (ids.map encN) 1, .int .i64 0])) ⟨by simp only; omega, (sU.trans sV.tl).put hbL _, hV1.put (by simp) _, setG v1 _, by rw [hnx]; exact .snoc (st := (mv, ids)) hmb⟩ (by simp only; omega))
    simp [hw]
  · have : i = T.length := by omega
    subst this
    rw [List.take_length] at hla
    obtain rfl : (mv0, ids0) = st := hla.unique hst
    have hR2 : Ris (fs ++ [⟨last, [], 0⟩]) := hR.snoc (fun a ha => by have := hRl a ha; simpa using this) (by simp only; omega)
    by_cases hT0 : T = []
    · subst hT0
      have hdr := drop_own (b := (last : Int)) hU hR2 (by omega)
      rw [dropGo_calm, List.nil_append, above_last (f := ⟨last, [], 0⟩) hR2] at hdr
      (repeat (first | refine Run.adm rfl ?_ | refine Run.seq ?_ | ((first | apply Run.opS rfl | apply Run.condS); (· (simp -implicitDefEqProofs; first | exact ⟨rfl, rfl⟩ | exact rfl)))))
      refine Run.opC rfl rfl rfl hU.last ?_
      rintro v H ⟨rfl, rfl⟩
      (repeat (first | refine Run.adm rfl ?_ | refine Run.seq ?_ | ((first | apply Run.opS rfl | apply Run.condS); (· (simp -implicitDefEqProofs; first | exact ⟨rfl, rfl⟩ | exact rfl)))))
      refine Run.opC rfl rfl rfl hdr ?_
      rintro v V1 (⟨e, -⟩ | ⟨-, rfl, hV, stV⟩)
      · omega
      (repeat (first | refine Run.adm rfl ?_ | refine Run.seq ?_ | ((first | apply Run.opS rfl | apply Run.condS); (· (simp -implicitDefEqProofs; first | exact ⟨rfl, rfl⟩ | exact rfl)))))
      refine Run.retS Tryz.func9 r9_ok trivial (by simp [r9]; rfl) ?_
      refine ⟨bk, by simp, ⟨lg, _, ?_, by simpa using hV, (stV bk (by simp)).trans u1, by simp [AllRec], by simpa using hla, hbL⟩, sU.trans stV.tl⟩
      have := stayT_len (last : Int) lts
      simp; omega
    · have hpos : 0 < T.length := List.length_pos_iff.2 hT0
      have hmb : mayB mv0 ids0 = true := by
        rcases hla with ⟨h0, -⟩ | ⟨h0, -⟩
        · exact absurd h0 hT0
        · exact h0
      (repeat (first | refine Run.adm rfl ?_ | refine Run.seq ?_ | ((first | apply Run.opS rfl | apply Run.condS); (· (simp -implicitDefEqProofs [hpos]; first | exact ⟨rfl, rfl⟩ | exact rfl)))))
      refine Run.opC rfl rfl rfl (puts_tri (f := ⟨last, [], 0⟩) hU u1 hbL hR2 (by omega) hmb (by omega) (by simp)) ?_
      rintro v V1 ⟨v1, sV1, ⟨e, -⟩ | ⟨-, e, -⟩ | ⟨-, -, rfl, hV⟩⟩
      · exact absurd e (by simp)
      · exact absurd e (by decide)
      simp only [List.nil_append] at hV
      have hR3 : Ris (fs ++ [⟨last, frmB (recB mv0 ids0), (frmB (recB mv0 ids0)).length⟩]) := hR2.put rfl
      have hdr := drop_own (b := (last : Int)) hV hR3 (by simp; omega)
      have hnn : nxF (nxF (-1)) = -1 := rfl
      rw [hnn, dropGo_calm, List.nil_append, above_last (f := ⟨last, frmB (recB mv0 ids0), (frmB (recB mv0 ids0)).length⟩) hR3] at hdr
      (repeat (first | refine Run.adm rfl ?_ | refine Run.seq ?_ | ((first | apply Run.opS rfl | apply Run.condS); (· (simp -implicitDefEqProofs; first | exact ⟨rfl, rfl⟩ | exact rfl)))))
      refine Run.opC rfl rfl rfl hV.last ?_
      rintro v H ⟨rfl, rfl⟩
      (repeat (first | refine Run.adm rfl ?_ | refine Run.seq ?_ | ((first | apply Run.opS rfl | apply Run.condS); (· (simp -implicitDefEqProofs; first | exact ⟨rfl, rfl⟩ | exact rfl)))))
      refine Run.opC rfl rfl rfl hdr ?_
      rintro v V2 (⟨e, -⟩ | ⟨-, rfl, hV2, stV⟩)
      · omega
      (repeat (first | refine Run.adm rfl ?_ | refine Run.seq ?_ | ((first | apply Run.opS rfl | apply Run.condS); (· (simp -implicitDefEqProofs; first | exact ⟨rfl, rfl⟩ | exact rfl)))))
      refine Run.retS Tryz.func9 r9_ok trivial (by simp [r9]; rfl) ?_
      rw [if_neg hT0]
      refine ⟨bk, by simp, ⟨lg, _, ?_, by simpa using hV2, (stV bk (by simp)).trans v1, fun r hr => ⟨(mv0, ids0), hmb, List.mem_singleton.1 hr⟩, .snoc (T := []) (st := (mv0, ids0)) hmb, hbL⟩, (sU.trans sV1).trans stV.tl⟩
      have := stayT_len (last : Int) (lts ++ [(recB mv0 ids0, last)])
      simp at this ⊢; omega

theorem bopen_tri {X : List O} {L : List Nat} {d m : Nat} {gs : List (List Bs)} {us : List Bs} {B : Bs} {st : BSt} {Y : List O} (h : Own X L d (LD (HFb m gs ++ [⟨m + gs.length, B, B.length⟩]) (-1) false) Y)
    (hB : (allF B).1 = us) (hBl : B.length ≤ 4194304) (hm : m + gs.length < 99) (hr : AllRec (gs.flatten ++ us)) (hl : (gs.flatten ++ us).length ≤ 1000) (hst : LastIs (gs.flatten ++ us) st) :
    Tri Tryz.prog 9 [.ptr d 0] Y (fun v Z => ∃ bk, v = .tup [.ptr bk 0, .int .i64 0] ∧ BookL X L d bk (m + gs.length + 1) (if gs.flatten ++ us = [] then [] else [recB st.1 st.2]) st (-1) Z ∧ StayL L Y Z) := by
  have hgl : ∀ g ∈ gs, ∀ s ∈ g, s.length ≤ 1000 := fun g hg s hs => hr.len s (by simp only [List.mem_append, List.mem_flatten]; exact .inl ⟨g, hg, hs⟩)
  obtain ⟨o1, o2⟩ := openedb (m := m) gs us B B.length (fun g hg s hs => by have := hgl g hg s hs; omega) hB
  have hR : Ris (HFb m gs ++ [⟨m + gs.length, B, B.length⟩]) := HLb_ris (by omega) _ _
  have hbb : ∀ f ∈ HFb m gs ++ [⟨m + gs.length, B, B.length⟩], f.bytes.length ≤ 4194304 := by
    intro f hf
    rcases List.mem_append.1 hf with hf | hf
    · obtain ⟨i, g, hi, rfl⟩ := HFb_mem hf
      have hgm := List.mem_of_getElem? hi
      have h5 := flatb_len g 1000 (by omega) (hgl g hgm)
      have h6 : g.length ≤ gs.flatten.length := by
        obtain ⟨P, Q, rfl⟩ := List.append_of_mem hgm
        simp; omega
      simp only at *
      rw [List.length_append] at hl
      omega
    · rw [List.mem_singleton.1 hf]; exact hBl
  exact bopen_gen h hR (fun f hf => by
    rcases List.mem_append.1 hf with hf | hf
    · have := HFb_num hf; omega
    · rw [List.mem_singleton.1 hf]; simp only; omega) (by omega) o1 o2 hbb hr hl hst
theorem bopen_new {X : List O} {L : List Nat} {d : Nat} {Y : List O} (h : Own X L d ⟨[], -1, false⟩ Y) :
    Tri Tryz.prog 9 [.ptr d 0] Y (fun v Z => ∃ bk, v = .tup [.ptr bk 0, .int .i64 0] ∧ BookL X L d bk 0 [] (0, []) (-1) Z ∧ StayL L Y Z) :=
  (bopen_gen (fs := []) (T := []) (last := 0) (st := (0, [])) h ⟨List.Pairwise.nil, by simp⟩ (by simp) (by omega) (by simp [opnT]) rfl (by simp) (by simp [AllRec]) (by simp) (.inl ⟨rfl, rfl⟩)).mono fun v Z ⟨bk, g1, g2, g3⟩ => ⟨bk, g1, by simpa using g2, g3⟩

end Go.Proofs.YthphkcpbglhabaaGreatDoor
