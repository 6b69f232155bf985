/-
  Sx, part Zb: a region of open order, whatever it is: what only reads is taken out of the way; the others come in every order that may be.
-/
import Derived.Test.YticecideodkcmaaSxZa
namespace Sx
open Go
set_option linter.unusedSimpArgs false
set_option linter.unusedVariables false

def DL.op (L : DL) (x : Nat) : AOper := (L[x]?.map (·.1)).getD ⟨none, none, .lenS (.t 0)⟩

def flowOk (L : DL) : List Nat → List Nat → Bool
  | [], _ => true
  | x :: xs, pend => decide (x < L.length) && opQuiet (L.op x).op && (match L.dst x with
    | none => true
    | some d => !(L.rd x).contains d && pend.all fun y => !(L.rd y).contains d && L.dst y != some d) && flowOk L xs (x :: pend)

def without (rest xs : List Nat) : List Nat := xs.foldl List.erase rest
def rev2 (xs pend : List Nat) : List Nat := xs.foldl (fun p x => x :: p) pend

theorem RunD.flow {E : Env} {L : DL} {k} : ∀ (xs : List Nat) {rest pend : List Nat}, flowOk L xs pend = true → rest.Nodup → (∀ x ∈ xs, x ∈ rest) → xs.Nodup → ∀ {t h}, PendOk E.P L t h pend →
    execQ E.P (xs.map L.op) t h (fun t h => PendOk E.P L t h (rev2 xs pend) → RunD E L (without rest xs) (rev2 xs pend) k t h) → RunD E L rest pend k t h
  | [], rest, pend, _, _, _, _, t, h, hp, hr => hr hp
  | x :: xs, rest, pend, hf, hnd, hin, hxs, t, h, hp, hr => by
    simp only [flowOk, Bool.and_eq_true, decide_eq_true_eq] at hf
    obtain ⟨⟨⟨hxl, hqo⟩, hdd⟩, hf'⟩ := hf
    have hL : L[x]? = some L[x] := List.getElem?_eq_getElem hxl
    have hop' : L.op x = L[x].1 := by simp [DL.op, hL]
    have hdst : L.dst x = L[x].1.dst := by simp [DL.dst, hL]
    have hrdx : L.rd x = L[x].1.rd := by simp [DL.rd, hL]
    simp only [List.map_cons, hop'] at hr hqo
    have hq : ∀ d, L[x].1.dst = some d → d ∉ L[x].1.rd ∧ ∀ y ∈ pend, d ∉ L.rd y ∧ L.dst y ≠ some d := by
      intro d hd
      rw [hdst, hd] at hdd
      simp only [Bool.and_eq_true, Bool.not_eq_true', List.contains_eq_mem, decide_eq_false_iff_not, List.all_eq_true, bne_iff_ne, ne_eq] at hdd
      rw [hrdx] at hdd
      exact hdd
    have hin' : ∀ y ∈ xs, y ∈ rest.erase x := fun y hy => (List.mem_erase_of_ne (fun e => (List.nodup_cons.1 hxs).1 (by rw [← e]; exact hy))).2 (hin y (List.mem_cons_of_mem _ hy))
    have main : ∀ v, (guardB t L[x].1.g = some true ∧ (opStep t h L[x].1.op = some (v, h) ∨ CallIs E.P t h L[x].1.op v) ∨ guardB t L[x].1.g = some false ∧ v = .tup []) →
        execQ E.P (xs.map L.op) (put t L[x].1.dst v) h (fun t h => PendOk E.P L t h (rev2 xs (x :: pend)) → RunD E L (without (rest.erase x) xs) (rev2 xs (x :: pend)) k t h) → RunD E L rest pend k t h := by
      intro v hv hrun
      refine RunD.float x v (hin x List.mem_cons_self) hnd ?_
      rw [hdst]
      refine RunD.flow xs hf' (hnd.erase x) hin' (List.nodup_cons.1 hxs).2 ?_ hrun
      have hsame : ∀ i ∈ L[x].1.rd, t i = put t L[x].1.dst v i := by
        intro i hi
        cases hd : L[x].1.dst with
        | none => rfl
        | some d =>
          have hne : i ≠ d := fun he => (hq d hd).1 (he ▸ hi)
          simp [put, upd, hne]
      have hg : guardB t L[x].1.g = guardB (put t L[x].1.dst v) L[x].1.g := guardB_congr fun j b e => hsame j (by simp only [AOper.rd, e]; simp)
      have hso : ∀ i ∈ L[x].1.op.rd, t i = put t L[x].1.dst v i := fun i hi => hsame i (by simp only [AOper.rd]; simp [hi])
      have hop : opStep t h L[x].1.op = opStep (put t L[x].1.dst v) h L[x].1.op := opStep_congr hso
      refine ⟨?_, hp.put fun e he y hy => (hq e he).2 y hy⟩
      rw [hL]
      simp only
      rw [← hg, ← hop]
      rcases hv with ⟨g1, g2⟩ | ⟨g1, rfl⟩
      · exact .inl ⟨g1, v, g2.imp id (fun hc => hc.congr hso), fun d hd => by simp [hd, put, upd]⟩
      · exact .inr ⟨g1, fun d hd => by simp [hd, put, upd]⟩
    revert hr
    have hrev : rev2 (x :: xs) pend = rev2 xs (x :: pend) := rfl
    have hwo : without rest (x :: xs) = without (rest.erase x) xs := rfl
    rw [hrev, hwo]
    generalize L[x].1 = o at hqo main
    obtain ⟨d, g, op⟩ := o
    simp only at hqo main
    simp only [execQ]
    split
    · rename_i hg
      split
      · rename_i hc
        rintro ⟨v, hv, hrun⟩
        exact main v (.inl ⟨hg, .inr hv⟩) hrun
      · split
        · rename_i v h' hs
          have := opQuiet_step hqo hs
          subst this
          exact fun hrun => main v (.inl ⟨hg, .inl hs⟩) hrun
        · exact fun hf => hf.elim
    · rename_i hg
      exact fun hrun => main _ (.inr ⟨hg, rfl⟩) hrun
    · exact fun hf => hf.elim

def ready (L : DL) (rest : List Nat) : List Nat := rest.filter fun y => (L.deps y).all fun d => !rest.contains d
def altOk (L : DL) (rest pend : List Nat) : Bool := statOk L rest pend && rest.any (· < L.length) && rest.all (· < L.length) && decide rest.Nodup && pend.all (fun x => !rest.contains x)
def left (L : DL) (y : Nat) (pend : List Nat) : List Nat := pend.filter fun x => !(clo L L.length (L.deps y)).contains x

theorem RunD.alt {E : Env} {L rest pend k t h} (ys : List Nat) (hc : altOk L rest pend = true) (hy : ready L rest = ys) (hpo : PendOk E.P L t h pend)
    (hr : ∀ y ∈ ys, AStep E.P t h (L.op y) (fun t' h' => RunD E L (rest.erase y) (left L y pend) k t' h')) : RunD E L rest pend k t h := by
  simp only [altOk, Bool.and_eq_true, decide_eq_true_eq] at hc
  obtain ⟨⟨⟨⟨h1, h2⟩, h3⟩, h4⟩, h5⟩ := hc
  refine RunD.next' h1 h2 h4 h5 hpo fun y hyr hd => ?_
  have hyl : y < L.length := by simpa using List.all_eq_true.1 h3 y hyr
  have hL : L[y]? = some L[y] := List.getElem?_eq_getElem hyl
  have hm : y ∈ ys := by rw [← hy]; exact List.mem_filter.2 ⟨hyr, hd⟩
  have := hr y hm
  have e1 : L.op y = L[y].1 := by simp [DL.op, hL]
  have e2 : L.deps y = L[y].2 := by simp [DL.deps, hL]
  rw [e1] at this
  simp only [left, e2] at this
  exact ⟨L[y].1, L[y].2, hL, this⟩

theorem RunD.alt1 {E : Env} {L rest pend k t h} (y : Nat) (hc : altOk L rest pend = true) (hy : ready L rest = [y]) (hpo : PendOk E.P L t h pend)
    (hr : AStep E.P t h (L.op y) (fun t' h' => RunD E L (rest.erase y) (left L y pend) k t' h')) : RunD E L rest pend k t h :=
  RunD.alt [y] hc hy hpo fun z hz => by rw [List.mem_singleton.1 hz]; exact hr
theorem RunD.alt2 {E : Env} {L rest pend k t h} (y z : Nat) (hc : altOk L rest pend = true) (hy : ready L rest = [y, z]) (hpo : PendOk E.P L t h pend)
    (hr1 : AStep E.P t h (L.op y) (fun t' h' => RunD E L (rest.erase y) (left L y pend) k t' h')) (hr2 : AStep E.P t h (L.op z) (fun t' h' => RunD E L (rest.erase z) (left L z pend) k t' h')) : RunD E L rest pend k t h :=
  RunD.alt [y, z] hc hy hpo fun x hx => by
    rcases List.mem_cons.1 hx with rfl | hx
    · exact hr1
    · rw [List.mem_singleton.1 hx]; exact hr2
theorem RunD.fin' {E : Env} {L pend k t h} (hst : statOk L [] pend = true) (hpo : PendOk E.P L t h pend) (hr : Run E ⟨k, t, h⟩) : RunD E L [] pend k t h := RunD.fin hst hpo hr

section pend
variable {P : Program} {L : DL} {t : T} {h : List O}
theorem PendOk.op {x : Nat} {xs : List Nat} {d g op ds v} (hL : L[x]? = some (⟨some d, g, op⟩, ds)) (hd : t d = v) (hg : guardB t g = some true) (hs : opStep t h op = some (v, h)) (r : PendOk P L t h xs) : PendOk P L t h (x :: xs) := by
  refine ⟨?_, r⟩
  rw [hL]
  exact .inl ⟨hg, v, .inl hs, fun e he => by cases he; exact hd⟩
theorem PendOk.call {x : Nat} {xs : List Nat} {d g fo args ds v f caps} (hL : L[x]? = some (⟨some d, g, .call fo args⟩, ds)) (hd : t d = v) (hg : guardB t g = some true) (hf : fo.ev t = .fn f caps)
    (htri : Tri P f (args.map (Opd.ev t) ++ caps) h (fun v' H => v' = v ∧ H = h)) (r : PendOk P L t h xs) : PendOk P L t h (x :: xs) := by
  refine ⟨?_, r⟩
  rw [hL]
  exact .inl ⟨hg, v, .inr ⟨fo, args, f, caps, _, rfl, hf, htri, fun _ _ h => h⟩, fun e he => by cases he; exact hd⟩
theorem PendOk.skip {x : Nat} {xs : List Nat} {d g op ds} (hL : L[x]? = some (⟨some d, g, op⟩, ds)) (hd : t d = .tup []) (hg : guardB t g = some false) (r : PendOk P L t h xs) : PendOk P L t h (x :: xs) := by
  refine ⟨?_, r⟩
  rw [hL]
  exact .inr ⟨hg, fun e he => by cases he; exact hd⟩
theorem PendOk.nil : PendOk P L t h [] := trivial
end pend

section astep
variable {P : Program} {t : T} {h : List O} {K : T → List O → Prop}
theorem AStep.A {o : AOper} {d g op v h'} (he : o = ⟨d, g, op⟩) (hg : guardB t g = some true) (hs : opStep t h op = some (v, h')) (hr : K (put t d v) h') : AStep P t h o K := by
  subst he; exact .inr ⟨hg, .inl ⟨v, h', hs, hr⟩⟩
theorem AStep.o0 {o : AOper} {d op v h'} (he : o = ⟨d, none, op⟩) (hs : opStep t h op = some (v, h')) (hr : K (put t d v) h') : AStep P t h o K := AStep.A he rfl hs hr
theorem AStep.N {o : AOper} {d g op} (he : o = ⟨d, g, op⟩) (hg : guardB t g = some false) (hr : K (put t d (.tup [])) h) : AStep P t h o K := by subst he; exact .inl ⟨hg, hr⟩
theorem AStep.C {o : AOper} {d g fo args f caps Q} (he : o = ⟨d, g, .call fo args⟩) (hg : guardB t g = some true) (hf : fo.ev t = .fn f caps) (htri : Tri P f (args.map (Opd.ev t) ++ caps) h Q)
    (hk : ∀ v h', Q v h' → K (put t d v) h') : AStep P t h o K := by
  subst he; exact .inr ⟨hg, .inr ⟨fo, args, f, caps, Q, rfl, hf, htri, hk⟩⟩
end astep

theorem ren_ite (ρ) (u : Prop) [Decidable u] (a b : V) : (if u then a else b).ren ρ = if u then a.ren ρ else b.ren ρ := by split <;> rfl

/-! ### calls that hold some of the objects -/

def liveB : O → Bool
  | .gone => false
  | _ => true
theorem liveB_live {o : O} (h : liveB o = true) : o.live := by cases o <;> first | trivial | cases h

def ObjsE (ρ : Nat → Option Nat) (h : List O) : List Nat → List O → Prop
  | [], [] => True
  | j :: js, o :: os => h[j]? = some (o.ren ρ) ∧ ObjsE ρ h js os
  | _, _ => False
theorem ObjsE.len {ρ h} : ∀ {ids os}, ObjsE ρ h ids os → ids.length = os.length
  | [], [], _ => rfl
  | _ :: js, _ :: os, hh => by simp [hh.2.len]
theorem ObjsE.get {ρ h} : ∀ {ids os}, ObjsE ρ h ids os → ∀ (i : Nat) (hi : i < ids.length) (o : O), os[i]? = some o → h[ids[i]]? = some (o.ren ρ)
  | _ :: js, p :: os, hh, 0, _, o, h2 => by simp at h2; subst h2; exact hh.1
  | _ :: js, _ :: os, hh, i + 1, hi, o, h2 => by simpa using hh.2.get i (by simpa using hi) o (by simpa using h2)

theorem Tri.held {P f as Hs Q} (htri : Tri P f as Hs Q) (ids : List Nat) {h : List O} {as' : List V} (ha : as' = V.renL (nm ids h.length) as) (hnd : ids.Nodup) (hl : Hs.all liveB = true) (ho : ObjsE (nm ids h.length) h ids Hs) :
    Tri P f as' h (fun v H' => ∃ v0 Hs', Q v0 Hs' ∧ v = v0.ren (nm ids h.length) ∧ H' = back ids h Hs') := by
  subst ha
  exact htri.frame ids h ho.len hnd (fun i o hi => liveB_live (List.all_eq_true.1 hl o (List.mem_of_getElem? hi))) (fun i hi o hio => ho.get i hi o hio)

theorem Run.opF {E : Env} {k t h} {ls : List AOper} {d g fo args l f caps Q as Hs} (ids : List Nat) (htri : Tri E.P f as Hs Q) (he : ls = ⟨d, g, .call fo args⟩ :: l) (hg : guardB t g = some true) (hf : fo.ev t = .fn f caps)
    (ha : args.map (Opd.ev t) ++ caps = V.renL (nm ids h.length) as) (hnd : ids.Nodup) (hl : Hs.all liveB = true) (ho : ObjsE (nm ids h.length) h ids Hs)
    (hk : ∀ v0 Hs', Q v0 Hs' → Run E ⟨.ops l :: k, put t d (v0.ren (nm ids h.length)), back ids h Hs'⟩) : Run E ⟨.ops ls :: k, t, h⟩ := by
  refine Run.opC he hg hf (htri.held ids ha hnd hl ho) ?_
  rintro v h' ⟨v0, Hs', hq, rfl, rfl⟩
  exact hk v0 Hs' hq
theorem AStep.F {P : Program} {t : T} {h : List O} {K : T → List O → Prop} {o : AOper} {d g fo args f caps Q as Hs} (ids : List Nat) (htri : Tri P f as Hs Q) (he : o = ⟨d, g, .call fo args⟩) (hg : guardB t g = some true) (hf : fo.ev t = .fn f caps)
    (ha : args.map (Opd.ev t) ++ caps = V.renL (nm ids h.length) as) (hnd : ids.Nodup) (hl : Hs.all liveB = true) (ho : ObjsE (nm ids h.length) h ids Hs)
    (hk : ∀ v0 Hs', Q v0 Hs' → K (put t d (v0.ren (nm ids h.length))) (back ids h Hs')) : AStep P t h o K := by
  refine AStep.C he hg hf (htri.held ids ha hnd hl ho) ?_
  rintro v h' ⟨v0, Hs', hq, rfl, rfl⟩
  exact hk v0 Hs' hq
theorem SeqR.F {P : Program} {t : T} {h : List O} {K : T → List O → Prop} {ls : List AOper} {d g fo args l f caps Q as Hs} (ids : List Nat) (htri : Tri P f as Hs Q) (he : ls = ⟨d, g, .call fo args⟩ :: l) (hg : guardB t g = some true) (hf : fo.ev t = .fn f caps)
    (ha : args.map (Opd.ev t) ++ caps = V.renL (nm ids h.length) as) (hnd : ids.Nodup) (hl : Hs.all liveB = true) (ho : ObjsE (nm ids h.length) h ids Hs)
    (hk : ∀ v0 Hs', Q v0 Hs' → SeqR P l (put t d (v0.ren (nm ids h.length))) (back ids h Hs') K) : SeqR P ls t h K := by
  refine SeqR.C he hg hf (htri.held ids ha hnd hl ho) ?_
  rintro v h' ⟨v0, Hs', hq, rfl, rfl⟩
  exact hk v0 Hs' hq

end Sx
