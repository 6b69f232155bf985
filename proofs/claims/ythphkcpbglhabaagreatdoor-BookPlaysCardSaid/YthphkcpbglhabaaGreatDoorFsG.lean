/-
  Layer 05, part G: the names of a disk's files, sorted.
-/
import Derived.Test.YthphkcpbglhabaaGreatDoorFsE
import Derived.StringKeys
namespace Go.Proofs.YthphkcpbglhabaaGreatDoor
open Sx Go Go.RowKit Go.Maps Go.Sort Go.Shelf
set_option maxRecDepth 100000
set_option linter.unusedSimpArgs false
set_option linter.unusedVariables false
set_option linter.unnecessarySimpa false
attribute [local simp] stepV condR boundsC appendG appendO copyV srcC guardB isCall opStep Opd.ev put readAt aBin aUn args0 V.celled V.ones V.one V.cells putAt bounds bound1 elemsOf srcOf appendV fillAt fillEl V.pures V.pure unwind evs ARes.ev mkRes V.ren V.renL O.ren eqCells eq1 aEq aMM hasTy hasTyN okTy mmGo Known HLe OLe VsLe.refl VLe.refl VLe.cap Stay VsLe V.frz V.frzL O.frz fr clearV rn KnownR Objs OLeO ObjsE nm back setAll ren_ite take_map_len List.take_of_length_le
attribute [local simp ↓] upd_app tl_cons tl_nil
attribute [local simp] encS_ren encS_ones encS_len encS_take KnownS VLe.refl

theorem sorts27 (m : Nat) : AnyZ.SortsIn Tryz.prog Tryz.sorted87_ren Fence.wide m :=
  ⟨fun blk off cap ss W hH hblk hsz => callsIn_wide.2 (AnyM.slices_Sort_string Tryz.sort138 blk off cap ss W hH hblk hsz),
   fun p cap W => callsIn_wide.2 (AnyM.slices_Sort_string_none Tryz.sort138 p cap W)⟩

/-- maps.Keys: a function over a new variable that holds the map -/
theorem keys_tri (X : List O) {m : Nat} {es : List (V × V)} (hm : X[m]? = some (.map es)) :
    Tri Tryz.prog 88 [.mp m] X (fun v H => v = .fn 139 [.ptr X.length 0] ∧ H = X ++ [.row [.mp m]] ++ [.ty X.length 86 none]) := by
  refine ⟨⟨Tryz.f88, Tryz.func88, by kernel_rfl, by kernel_rfl⟩, fun c w cargs hh hv => ?_⟩
  have hsz : cargs.size = 1 := by rw [← hv.1]; rfl
  have h0 := hv.2 0 (by simp) (by omega)
  simp only [List.getElem_cons_zero] at h0
  obtain ⟨p, ce, cl, hxc, hp, hn, hw, hst, hl, hv'⟩ := map_obj hh hm h0
  rw [args1 hsz, hxc]
  have w1 : (w.alloc (.cells #[.map (some p.block)] 86)).heap[w.heap.size]? = some (.cells #[.map (some p.block)] 86 (0, 0)) := heap_alloc_new w _
  have w2 : w.heap.size ≤ (w.alloc (.cells #[.map (some p.block)] 86)).heap.size := by simp only [World.alloc, Array.size_push]; omega
  have w3 : ∀ b, b < w.heap.size → (w.alloc (.cells #[.map (some p.block)] 86)).heap[b]? = w.heap[b]? := fun b hb => by
    simp only [World.alloc, Array.getElem?_push]; rw [if_neg (by omega)]
  have w4 : (w.alloc (.cells #[.map (some p.block)] 86)).os = w.os ∧ (w.alloc (.cells #[.map (some p.block)] 86)).output = w.output ∧ (w.alloc (.cells #[.map (some p.block)] 86)).tape = w.tape := ⟨rfl, rfl, rfl⟩
  refine Calls.mono (callsIn_wide.1 (AnyZ.keys_in Tryz.keys88 Fence.wide 5 trivial rfl (some p.block) w)) ?_
  rintro e w' ⟨rfl, hw'⟩
  obtain ⟨W, hW⟩ : ∃ W, W = w.alloc (.cells #[.map (some p.block)] 86) := ⟨_, rfl⟩
  rw [← hW] at w1 w2 w3 w4
  have hw2 : w' = W := by rw [hW]; exact hw'
  subst hw2
  obtain ⟨pl, hpl⟩ : ∃ pl : Sx.Place, pl = ⟨w.heap.size, 0, 1, false, 86⟩ := ⟨_, rfl⟩
  have hrow : ∀ m' : Pl, (∀ i q, c.m i = some q → m' i = some q) → ORel c.ro m' w' pl (.row [.mp m]) := fun m' hm' => by
    subst hpl
    refine ⟨#[.map (some p.block)], ⟨rfl, rfl, Nat.zero_le _, ⟨86, rfl⟩, (0, 0), w1, fun i _ => by omega⟩, Nat.le_refl _, fun i h h' => ?_⟩
    have h0i : i = 0 := by simp at h; exact h
    subst h0i
    exact .mp _ _ p (hm' _ _ hp) hn
  obtain ⟨g1, g2⟩ := hh.grow (w' := w') (.row [.mp m]) pl (fun _ => by rw [hpl]; exact Nat.le_refl _) w2 w3 w4.1 w4.2.1 w4.2.2 hrow
  obtain ⟨g3, g4⟩ := g1.grow (w' := w') (.ty X.length 86 none) ⟨0, 0, 0, true, 0⟩ (fun h => by cases h) (Nat.le_refl _) (fun _ _ => rfl) rfl rfl rfl (fun m' hm' => ⟨rfl, pl, hm' _ _ (by simp), fun _ => by subst hpl; exact ⟨rfl, rfl, fun _ h => by cases h⟩⟩)
  refine ⟨_, _, _, _, ⟨rfl, rfl⟩, rfl, ?_, g3, g2.trans hh g4⟩
  refine .fn _ _ _ _ rfl fun i h h' => ?_
  have : i = 0 := by simp at h; exact h
  subst this
  have := VRel.ptr (ro := c.ro) (fun i => if i = (X ++ [O.row [V.mp m]]).length then some (⟨0, 0, 0, true, 0⟩ : Sx.Place) else if i = X.length then some pl else c.m i) X.length 0 pl (by simp) (by rw [hpl])
  rw [hpl] at this ⊢
  exact this

def sortN (ns : List Bs) : List Bs := ns.mergeSort leB

/-- slices.Sorted of it: the keys, sorted -/
theorem sorted_tri (X : List O) {k m : Nat} {l : List FP} (hk : X[k]? = some (.row [.mp m])) (ht : X[k + 1]? = some (.ty k 86 none)) (hm : X[m]? = some (.map (l.map entV))) (hlen : ∀ q ∈ l, q.f.name.length ≤ 32) (hl : l.length ≤ 256) :
    Tri Tryz.prog 87 [.fn 139 [.ptr k 0]] X (fun v H => v = .sl X.length 0 l.length 1 none ∧ H = X ++ [.arr ((sortN (l.map (·.f.name))).map encS) 1]) := by
  refine ⟨⟨Tryz.f87, Tryz.func87, by kernel_rfl, by kernel_rfl⟩, fun c w cargs hh hv => ?_⟩
  have hsz : cargs.size = 1 := by rw [← hv.1]; rfl
  have h0 := hv.2 0 (by simp) (by omega)
  simp only [List.getElem_cons_zero] at h0
  obtain ⟨cs, hb, hcs⟩ := h0.fn_inv
  have hcs1 : cs.size = 1 := by have := hcs.1; simpa using this.symm
  have hptr := hcs.2 0 (by simp) (by omega)
  simp only [List.getElem_cons_zero] at hptr
  obtain ⟨p, hp, ⟨cc, ⟨hpn, hcsz, -, ⟨el, hel⟩, fr, hw, -⟩, htop, hcell⟩, -⟩ := hh.obj k _ hk trivial
  obtain ⟨pt, -, ⟨-, q, hq, hqq⟩, -⟩ := hh.obj (k + 1) _ ht trivial
  rw [hp] at hq; cases hq
  obtain ⟨-, hbase, -⟩ := hqq hpn
  obtain ⟨pm, hpm, ⟨hmn, ce, cl, hmw, hst, hcl, hvs⟩, -⟩ := hh.obj m _ hm trivial
  have hcs0 : cs[0] = .pointer (some ⟨p.block, 0, none⟩) := by
    generalize cs[0] = y at hptr
    cases hptr with
    | ptr _ _ _ p' h1 h2 => rw [hp] at h1; cases h1; rw [hbase]
  simp only [List.length_cons, List.length_nil, Nat.zero_add, hbase] at htop hcell
  have hc0 : cc[0]? = some (.map (some pm.block)) := by
    have h1 := hcell 0 (by simp) (by omega)
    simp only [List.getElem_cons_zero, Nat.add_zero] at h1
    rw [Array.getElem?_eq_getElem (by omega)]
    generalize cc[0] = y at h1 ⊢
    cases h1 with
    | mp _ _ p' h1 h2 => rw [hpm] at h1; cases h1; rfl
  have hcell0 : w.cell? ⟨p.block, 0, none⟩ = some (.map (some pm.block)) := by simp [World.cell?, hw, hc0]
  have hkey : ∀ i (h : i < l.length) (h' : i < ce.size), ce[i].key = encStr l[i].f.name := fun i h h' => by
    have h1 := (hvs i (by simpa using h) h').1
    simp only [List.getElem_map, entV] at h1
    rw [h1.str_inv]
  rw [List.length_map] at hcl
  have hread : ∀ i (h : i < l.length) (h' : i < ce.size), WideElems.rd (H := Unit) Tryz.prog 9 (fun _ => some (.nil, [])) ce[i] = some (.string l[i].f.name, .nil) := fun i h h' => by
    have h1 := hkey i h h'
    have h2 : l[i].f.name.length ≤ maxLen := Nat.le_trans (hlen _ (List.getElem_mem h)) (by decide)
    have h3 : keyOf Tryz.prog 9 ce[i].key = some (.string l[i].f.name) := by
      rw [h1]
      exact WideMaps.keyOf_string_mk Tryz.underlying9 (show (l[i].f.name.toArray).size ≤ maxLen by rw [List.size_toArray]; exact h2)
    simp [WideElems.rd, h3]
  have hes : ce.toList.map (WideElems.rg (H := Unit) Tryz.prog 9 (fun _ => some (.nil, []))) = l.map (fun q => (Lit.string q.f.name, .nil)) := by
    refine List.ext_getElem (by simp [hcl]) fun i h1 h2 => ?_
    simp only [List.getElem_map, Array.getElem_toList]
    have h1' : i < ce.size := by simpa using h1
    have h2' : i < l.length := by simpa using h2
    exact WideElems.rg_of (hread i h2' h1')
  obtain ⟨D0, hD0⟩ : ∃ D0 : DataW Unit, D0 = .map ((l.map (fun q => (Lit.string q.f.name, DataW.nil))).foldr DataW.insert []) := ⟨_, rfl⟩
  have hown : w.ownsMap Tryz.prog 9 (fun _ => some (.nil, [])) pm.block 256 D0 := by
    refine ⟨ce, cl, hmw, ⟨?_, hst, fun x hx => ?_⟩, by omega, by rw [hes, hD0]⟩
    · exact Nat.le_trans (by omega : ce.size ≤ 256) (by decide)
    · obtain ⟨i, hi, rfl⟩ := List.getElem_of_mem hx
      have hi' : i < ce.size := by simpa using hi
      exact ⟨_, by rw [Array.getElem_toList]; exact hread i (by omega) hi'⟩
  have hpm : (strKeys D0).Perm (l.map (·.f.name)) := by
    rw [hD0]
    have := (WideShapes.sorted_perm (l.map (fun q => (Lit.string q.f.name, DataW.nil (H := Unit))))).map (fun p => strOf p.1)
    simpa [strKeys, strOf, Function.comp_def] using this
  have hsize : Maps.size D0 = l.length := by
    have := hpm.length_eq
    rw [hD0] at this ⊢
    simpa [strKeys, Maps.size] using this
  have hblt : p.block < w.heap.size := (Array.getElem?_eq_some_iff.1 hw).1
  rw [args1 hsz, hb, args1 hcs1, hcs0]
  have hseq : SeqGives Fence.wide 2 Tryz.prog 139 #[.pointer (some ⟨p.block, 0, none⟩)] encStr (fun ss => ss.Perm (strKeys D0)) (Maps.size D0) w :=
    AnyZ.keys_gives (ρ := Tryz.keys88_ren) { Tryz.keys88 with } Fence.wide _ trivial rfl (by omega) p.block pm.block 256 D0 w hblt hcell0 hown
  refine Calls.mono (callsIn_wide.1 (AnyZ.sorted_in Tryz.sorted87 Fence.wide 5 trivial trivial trivial trivial rfl (by omega) (sorts27 _) (enters_of Tryz.func138 (by kernel_rfl) rfl) 139 #[.pointer (some ⟨p.block, 0, none⟩)] trivial (enters_of Tryz.func139 (by kernel_rfl) rfl) _ _
    (by rw [hsize]; exact Nat.le_trans hl (by decide)) (by rw [hsize]; omega) _ hseq)) ?_
  rintro e w' ⟨v, ss, rfl, hss, ⟨hxl, hrow⟩, hnil, hbel⟩
  have hsl : ss.length = l.length := by have := (hss.trans hpm).length_eq; simpa using this
  have hsort : ss.mergeSort (fun x y => decide (x ≤ y)) = sortN (l.map (·.f.name)) := mergeSort_of_perm (hss.trans hpm)
  rw [hsort] at hrow hxl
  rw [hsl] at hrow hxl
  have hones : ∀ e ∈ (sortN (l.map (·.f.name))).map encS, V.ones e = true := fun e he => by
    obtain ⟨s, -, rfl⟩ := List.mem_map.1 he; rfl
  have hlens : ∀ i (h : i < ((sortN (l.map (·.f.name))).map encS).length), ((sortN (l.map (·.f.name))).map encS)[i].length = 1 := fun i h => by simp [encS]
  have hnl : ((sortN (l.map (·.f.name))).map encS).length = l.length := by simp [sortN]
  rcases hrow with ⟨rfl, hz⟩ | ⟨g, cap, cur, rfl, hg, hgw, hcap, -, hcur, htake⟩
  · obtain ⟨g1, g2⟩ := hh.grow (w' := w') (.arr ((sortN (l.map (·.f.name))).map encS) 1) ⟨0, 0, 0, true, 0⟩ (fun h => by cases h) hbel.size hbel.block hbel.os hbel.output hbel.tape (fun m' _ => ⟨fun _ => by
      rw [← List.length_eq_zero_iff, hnl]; exact hz, hones, hlens, fun h => by cases h⟩)
    refine ⟨_, _, _, _, ⟨rfl, rfl⟩, rfl, ?_, g1, g2⟩
    rw [hz]
    exact .slnil _ _ _ ⟨0, 0, 0, true, 0⟩ _ (by simp) rfl
  · obtain ⟨g1, g2⟩ := hh.grow (w' := w') (.arr ((sortN (l.map (·.f.name))).map encS) 1) ⟨g, 0, cur.size, false, 9⟩ (fun _ => hg) hbel.size hbel.block hbel.os hbel.output hbel.tape (fun m' _ => ⟨fun h => (by cases h), hones, hlens, fun _ =>
      ⟨cur, ⟨rfl, rfl, Nat.zero_le _, ⟨9, rfl⟩, (0, 0), hgw, fun i _ => by omega⟩, by rw [hnl, hcur]; simp only; omega, fun i hi j hj => by
        have hj0 : j = 0 := by rw [hlens i hi] at hj; omega
        subst hj0
        have hi' : i < (sortN (l.map (·.f.name))).length := by simpa using hi
        refine ⟨encStr (sortN (l.map (·.f.name)))[i], ?_, ?_⟩
        · have h1 : (cur.toList.take (l.length * 1))[i]? = some (encStr (sortN (l.map (·.f.name)))[i]) := by
            rw [htake, List.getElem?_map, List.getElem?_eq_getElem hi']; rfl
          rw [List.getElem?_take] at h1
          split at h1
          · simpa using h1
          · cases h1
        · simp only [List.getElem_map, encS, List.getElem_cons_zero]
          exact .str ..⟩⟩)
    refine ⟨_, _, _, _, ⟨rfl, rfl⟩, rfl, ?_, g1, g2⟩
    exact .sl _ _ 0 _ 1 cap 0 none ⟨g, 0, cur.size, false, 9⟩ (by simp) rfl hcap (.inl (by simp)) (fun _ => by simp only; omega) (fun x h => by cases h)

end Go.Proofs.YthphkcpbglhabaaGreatDoor
