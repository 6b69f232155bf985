/-
  Layer 14, part T: Join of both; what is made of any may be.
-/
import Derived.Test.YticecideodkcmaaOnceS
namespace Go.Proofs.Yticecideodkcmaa
open Sx Go
set_option maxRecDepth 100000
set_option linter.unusedSimpArgs false
set_option linter.unusedVariables false
set_option linter.unnecessarySimpa false
attribute [local simp] guardB isCall opStep Opd.ev put readAt aBin aUn args0 V.celled V.ones V.one V.cells putAt bounds bound1 elemsOf srcOf appendV fillAt fillEl V.pures V.pure unwind evs ARes.ev mkRes V.ren V.renL O.ren eqCells eq1 aEq aMM hasTy hasTyN okTy mmGo Known HLe OLe VsLe.refl VLe.refl Stay VsLe V.frz V.frzL O.frz fr clearV rn KnownR Objs OLeO ObjsE nm back setAll ren_ite take_map_len List.take_of_length_le
attribute [local simp ↓] upd_app tl_cons tl_nil
attribute [local simp] encS_ren encS_ones

def pickO : Option Seen → Option Seen → Option Seen
  | none, y => y
  | some x, none => some x
  | some x, some y => if x.seq < y.seq then some y else some x

theorem pickO_assoc : ∀ a b c, pickO (pickO a b) c = pickO a (pickO b c)
  | none, _, _ => rfl
  | some _, none, _ => rfl
  | some x, some y, none => by
    by_cases h : x.seq < y.seq <;> simp [pickO, h]
  | some x, some y, some z => by
    simp only [pickO]
    by_cases h1 : x.seq < y.seq <;> by_cases h2 : y.seq < z.seq <;> by_cases h3 : x.seq < z.seq <;> simp [h1, h2, h3, pickO] <;> omega
theorem pickO_seq : ∀ a b, (pickO a b).map (fun x => x.seq) = (pickO b a).map (fun x => x.seq)
  | none, none => rfl
  | none, some _ => rfl
  | some _, none => rfl
  | some x, some y => by
    simp only [pickO]
    by_cases h1 : x.seq < y.seq <;> by_cases h2 : y.seq < x.seq <;> simp [h1, h2] <;> omega

theorem ok_ext_f {β : Type} (f : Seen → β) : ∀ {l m : List Seen} {a b : Int}, okGo l a = true → okGo m b = true → (∀ c, (lookup l c).map f = (lookup m c).map f) → l.map (fun x => (x.client, f x)) = m.map (fun x => (x.client, f x))
  | [], [], _, _, _, _, _ => rfl
  | [], y :: m, _, _, _, _, h => by have := h y.client; rw [lookup_cons, if_pos rfl] at this; cases this
  | x :: l, [], _, _, _, _, h => by have := h x.client; rw [lookup_cons, if_pos rfl] at this; cases this
  | x :: l, y :: m, a, b, hl, hm, h => by
    obtain ⟨l1, l2, l3⟩ := okGo_cons.1 hl
    obtain ⟨m1, m2, m3⟩ := okGo_cons.1 hm
    have hxy : x.client = y.client := by
      rcases Int.lt_trichotomy x.client y.client with hlt | he | hgt
      · have := h x.client
        rw [lookup_cons, if_pos rfl, lookup_cons, if_neg (by omega), lookup_none m3 (by omega)] at this; cases this
      · exact he
      · have := h y.client
        rw [lookup_cons (x := y), if_pos rfl, lookup_cons, if_neg (by omega), lookup_none l3 (by omega)] at this; cases this
    have he := h x.client
    rw [lookup_cons, if_pos rfl, lookup_cons, if_pos hxy.symm] at he
    simp only [Option.map_some, Option.some.injEq] at he
    rw [List.map_cons, List.map_cons, hxy, he, ok_ext_f f l3 m3 fun c => ?_]
    have := h c
    rw [lookup_cons, lookup_cons] at this
    by_cases hc : x.client = c
    · rw [lookup_none l3 (by omega), lookup_none m3 (by omega)]
    · rwa [if_neg hc, if_neg (fun e => hc (hxy.trans e))] at this

theorem join_spec {a b : List Seen} (ha : okGo a (-1) = true) (hb : okGo b (-1) = true) : (joinM a b).2 = 0 ∧ okGo (joinM a b).1 (-1) = true ∧ ∀ c, lookup (joinM a b).1 c = pickO (lookup a c) (lookup b c) := by
  have hM : joinM a b = (keptL (joinT (readM a).1 (readM b).1), 0) := by rw [joinM, if_pos ⟨by rw [readM_ok]; exact ha, by rw [readM_ok]; exact hb⟩]
  have hget : ∀ k : Nat, k < 8 → (joinT (readM a).1 (readM b).1)[k]? = some (if ((lookup a k).getD zero).seq < ((lookup b k).getD zero).seq then (lookup b k).getD zero else (lookup a k).getD zero) :=
    fun k hk => joinT_get _ _ k _ _ (tab_get ha hk) (tab_get hb hk)
  have hlen : (joinT (readM a).1 (readM b).1).length = 8 := by rw [joinT_len, readM_len]
  have hT : TabOk 0 (joinT (readM a).1 (readM b).1) := by
    intro k y hk
    have hk8 : k < 8 := by rw [← hlen]; exact (List.getElem?_eq_some_iff.1 hk).1
    rw [hget k hk8] at hk
    simp only [Option.some.injEq] at hk
    split at hk
    · exact tabOk_read hb k y (by rw [tab_get hb hk8, hk])
    · exact tabOk_read ha k y (by rw [tab_get ha hk8, hk])
  have hk := kept_ok hT (last := -1) (by decide)
  rw [hM]
  refine ⟨rfl, hk, fun c => ?_⟩
  by_cases hc : c < 0 ∨ 8 ≤ c
  · rw [lookup_out hk hc, lookup_out ha hc, lookup_out hb hc]; rfl
  · obtain ⟨n, rfl⟩ : ∃ n : Nat, c = n := ⟨c.toNat, by omega⟩
    have hn : n < 8 := by omega
    rw [kept_lookup hT n, if_pos (Nat.zero_le _), Nat.sub_zero, hget n hn]
    simp only [Option.bind_some]
    cases hla : lookup a n with
    | none =>
      cases hlb : lookup b n with
      | none => rfl
      | some y =>
        have := seq_pos hb hlb
        have h1 := (ok_bounds hb (lookup_some hlb).1).2.2.1
        have hz : zero.seq < y.seq := by show (0 : Int) < _; omega
        simp [pickO, hz, this]
    | some x =>
      have hx := seq_pos ha hla
      have h1 := (ok_bounds ha (lookup_some hla).1).2.2.1
      cases hlb : lookup b n with
      | none =>
        have hz : ¬ x.seq < zero.seq := by show ¬ x.seq < (0 : Int); omega
        simp [pickO, hz, hx]
      | some y =>
        have hy := seq_pos hb hlb
        simp only [Option.getD_some, pickO]
        split <;> simp [hx, hy]

theorem join_self {a : List Seen} (ha : okGo a (-1) = true) : joinM a a = (a, 0) := by
  obtain ⟨h1, h2, h3⟩ := join_spec ha ha
  refine Prod.ext (ok_ext h2 ha fun c => ?_) h1
  rw [h3]; cases lookup a c <;> simp [pickO]

theorem join_comm {a b : List Seen} (ha : okGo a (-1) = true) (hb : okGo b (-1) = true) : (joinM a b).1.map (fun x => (x.client, x.seq)) = (joinM b a).1.map (fun x => (x.client, x.seq)) := by
  obtain ⟨_, h2, h3⟩ := join_spec ha hb
  obtain ⟨_, k2, k3⟩ := join_spec hb ha
  refine ok_ext_f (fun x => x.seq) h2 k2 fun c => ?_
  rw [h3, k3, pickO_seq]

theorem join_assoc {a b d : List Seen} (ha : okGo a (-1) = true) (hb : okGo b (-1) = true) (hd : okGo d (-1) = true) : joinM (joinM a b).1 d = joinM a (joinM b d).1 := by
  obtain ⟨_, h2, h3⟩ := join_spec ha hb
  obtain ⟨_, k2, k3⟩ := join_spec hb hd
  obtain ⟨p1, p2, p3⟩ := join_spec h2 hd
  obtain ⟨q1, q2, q3⟩ := join_spec ha k2
  refine Prod.ext (ok_ext p2 q2 fun c => ?_) (p1.trans q1.symm)
  rw [p3, q3, h3, k3, pickO_assoc]

theorem join_find {a b : List Seen} (ha : okGo a (-1) = true) (hb : okGo b (-1) = true) {x : Seen} (hx : x ∈ a) : (findM (joinM a b).1 x.client x.seq).2 = 0 ∨ (findM (joinM a b).1 x.client x.seq).2 = 140 := by
  obtain ⟨_, h2, h3⟩ := join_spec ha hb
  have hb' := ok_bounds ha hx
  have hl : lookup a x.client = some x := by
    have : ∀ {l : List Seen} {last : Int}, okGo l last = true → x ∈ l → lookup l x.client = some x := by
      intro l
      induction l with
      | nil => intro last _ h; cases h
      | cons y l ih =>
        intro last hok h
        obtain ⟨y1, y2, y3⟩ := okGo_cons.1 hok
        rw [lookup_cons]
        rcases List.mem_cons.1 h with rfl | h
        · rw [if_pos rfl]
        · have := (okGo_mem y3 x h).2
          rw [if_neg (by omega)]; exact ih y3 h
    exact this ha hx
  have hz : ∃ z, lookup (joinM a b).1 x.client = some z ∧ x.seq ≤ z.seq := by
    rw [h3, hl]
    cases lookup b x.client with
    | none => exact ⟨x, rfl, Int.le_refl _⟩
    | some y => simp only [pickO]; split
                · exact ⟨y, rfl, by omega⟩
                · exact ⟨x, rfl, Int.le_refl _⟩
  obtain ⟨z, hz1, hz2⟩ := hz
  rw [find_eq, rfindM, if_pos ⟨h2, by simp [argOk]; omega⟩, hz1]
  simp only
  rw [if_neg (by omega)]
  split
  · exact .inr rfl
  · exact .inl rfl

theorem made_ok : ∀ (l o : List Seen), okGo o (-1) = true → okGo (madeM l o) (-1) = true
  | [], o, h => h
  | x :: l, o, h => by
    refine made_ok l _ ?_
    split
    · rw [← put_eq]; exact putM_ok o x
    · exact h

/-! ### the document's Join -/

def newB (a : List Seen) (y : Seen) : Bool := match lookup a y.client with
  | none => true
  | some x => decide (x.seq < y.seq)
def rjoinGo (a : List Seen) : List Seen → List Seen → List Seen
  | [], o => o
  | y :: b, o => rjoinGo a b (if newB a y = true then rputGo o y false else o)
def rjoinM (a b : List Seen) : List Seen × Int := if okGo a (-1) = true ∧ okGo b (-1) = true then (rjoinGo a b a, 0) else ([], 1)

theorem rjoin_spec (a : List Seen) : ∀ {b o : List Seen} {last : Int}, okGo b last = true → okGo o (-1) = true →
    okGo (rjoinGo a b o) (-1) = true ∧ ∀ c, lookup (rjoinGo a b o) c = match lookup b c with | some y => if newB a y = true then some y else lookup o c | none => lookup o c
  | [], o, last, _, ho => ⟨ho, fun c => rfl⟩
  | y :: b, o, last, hb, ho => by
    obtain ⟨b1, b2, b3⟩ := okGo_cons.1 hb
    have hy := mayB_spec b1
    obtain ⟨r1, r2, _⟩ := rput_spec ho b1 (by omega)
    simp only [rjoinGo]
    by_cases hn : newB a y = true
    · simp only [hn, if_true]
      obtain ⟨g1, g2⟩ := rjoin_spec a b3 r1
      refine ⟨g1, fun c => ?_⟩
      rw [g2, lookup_cons, r2]
      by_cases hc : y.client = c
      · rw [if_pos hc, lookup_none b3 (by omega)]; simp [hn, hc]
      · rw [if_neg hc, if_neg (fun e => hc e.symm)]
    · simp only [hn]
      obtain ⟨g1, g2⟩ := rjoin_spec a b3 ho
      refine ⟨g1, fun c => ?_⟩
      simp only [Bool.false_eq_true, if_false]
      rw [g2, lookup_cons]
      by_cases hc : y.client = c
      · rw [if_pos hc, lookup_none b3 (by omega)]; simp [hn]
      · rw [if_neg hc]

theorem rjoin_eq (a b : List Seen) : joinM a b = rjoinM a b := by
  unfold rjoinM
  split
  · rename_i h
    obtain ⟨h1, h2, h3⟩ := join_spec h.1 h.2
    obtain ⟨g1, g2⟩ := rjoin_spec a h.2 h.1
    refine Prod.ext (ok_ext h2 g1 fun c => ?_) h1
    rw [h3, g2]
    cases hb : lookup b c with
    | none => cases lookup a c <;> rfl
    | some y =>
      have hc := (lookup_some hb).2
      simp only [newB, hc]
      cases lookup a c with
      | none => rfl
      | some x => simp only [pickO, decide_eq_true_eq]
  · rename_i h
    rw [joinM, if_neg]
    rw [readM_ok, readM_ok]; exact h

theorem rjoinGo_len (a : List Seen) : ∀ (b o : List Seen), (rjoinGo a b o).length ≤ o.length + b.length
  | [], o => by simp [rjoinGo]
  | y :: b, o => by
    simp only [rjoinGo]
    have := rjoinGo_len a b (if newB a y = true then rputGo o y false else o)
    have h2 := rputGo_len o y false
    simp only [List.length_cons, Bool.false_eq_true, if_false] at h2 ⊢
    by_cases hn : newB a y = true
    · rw [if_pos hn] at this ⊢; omega
    · rw [if_neg hn] at this ⊢; omega

theorem newB_find (a : List Seen) (y : Seen) : newB a y = decide (findI a y.client 0 < 0 ∨ (a.getD (findI a y.client 0).toNat zero).seq < y.seq) := by
  rcases findI_spec a y.client 0 with ⟨h1, h2⟩ | ⟨k, x, h1, h2, h3, h4⟩
  · rw [newB, h1, h2]; simp
  · rw [newB, h2, h4]
    have e : a.getD ((0 + k : Nat) : Int).toNat zero = x := by rw [show ((0 + k : Nat) : Int).toNat = k by omega, List.getD_eq_getElem?_getD, h1]; rfl
    simp only [e]
    congr 1
    simp only [eq_iff_iff]; exact ⟨fun h => .inr h, fun h => h.resolve_left (by omega)⟩

theorem rjoin_tri (a b : List Seen) (hla : a.length ≤ 1000) (hlb : b.length ≤ 1000) : Tri Try.prog 20 [.vs (a.map encS) 7, .vs (b.map encS) 7] [] (fun v H => v = .tup [.vs ((rjoinM a b).1.map encS) 7, .int .i64 (rjoinM a b).2] ∧ H = []) := by
  refine Tri.of_run' Try.func20 rfl c20_ok (by simp [Try.ntmps20]) ?_
  have hbad : ∀ {k}, okGo a (-1) = false ∨ okGo b (-1) = false → AtEnd k → Run ⟨Try.prog, 20, Try.f20.ntmps, [], fun v H => v = .tup [.vs ((rjoinM a b).1.map encS) 7, .int .i64 (rjoinM a b).2] ∧ H = []⟩ ⟨k, tl [(4, .vs [] 7), (5, .int .i64 1)], []⟩ := by
    intro k hb hk
    have : rjoinM a b = ([], 1) := by rw [rjoinM, if_neg]; rintro ⟨h1, h2⟩; rcases hb with h | h <;> simp_all
    refine Run.retI Try.func20 r20_ok hk (by simp [r20]; rfl) (by simp) ?_ (by simp) (by simp)
    simp [this]
  (repeat (first | refine Run.seq ?_ | refine Run.reg ?_ | refine Run.skip ?_ | refine Run.block ?_ | refine Run.endB ?_ | refine Run.opE rfl ?_ | (apply Run.op0 rfl; (· (simp -implicitDefEqProofs; exact ⟨rfl, rfl⟩))) | (apply Run.opA rfl; (· (simp -implicitDefEqProofs; done)); (· (simp -implicitDefEqProofs; exact ⟨rfl, rfl⟩))) | (apply Run.opN rfl; (· (simp -implicitDefEqProofs; done))) | (refine Run.condT ?_ ?_; (· (simp -implicitDefEqProofs; done))) | (refine Run.condF ?_ ?_; (· (simp -implicitDefEqProofs; done))) | refine Run.exit rfl ?_))
  refine Run.opC rfl rfl rfl (rmayL_at a (by omega) _) ?_
  rintro v h' ⟨rfl, rfl⟩
  cases ha : okGo a (-1) with
  | false =>
    (repeat (first | refine Run.seq ?_ | refine Run.reg ?_ | refine Run.skip ?_ | refine Run.block ?_ | refine Run.endB ?_ | refine Run.opE rfl ?_ | (apply Run.op0 rfl; (· (simp -implicitDefEqProofs [ha]; exact ⟨rfl, rfl⟩))) | (apply Run.opA rfl; (· (simp -implicitDefEqProofs [ha]; done)); (· (simp -implicitDefEqProofs [ha]; exact ⟨rfl, rfl⟩))) | (apply Run.opN rfl; (· (simp -implicitDefEqProofs [ha]; done))) | (refine Run.condT ?_ ?_; (· (simp -implicitDefEqProofs [ha]; done))) | (refine Run.condF ?_ ?_; (· (simp -implicitDefEqProofs [ha]; done))) | refine Run.exit rfl ?_))
    refine Run.mv [] [(4, .vs [] 7), (5, .int .i64 1)] [] (by rfl) (by decide) (by simp -implicitDefEqProofs [VLe.nils]) (by simp -implicitDefEqProofs [VLe.nils]) ?_
    exact hbad (.inl ha) trivial
  | true =>
  (repeat (first | refine Run.seq ?_ | refine Run.reg ?_ | refine Run.skip ?_ | refine Run.block ?_ | refine Run.endB ?_ | refine Run.opE rfl ?_ | (apply Run.op0 rfl; (· (simp -implicitDefEqProofs [ha]; exact ⟨rfl, rfl⟩))) | (apply Run.opA rfl; (· (simp -implicitDefEqProofs [ha]; done)); (· (simp -implicitDefEqProofs [ha]; exact ⟨rfl, rfl⟩))) | (apply Run.opN rfl; (· (simp -implicitDefEqProofs [ha]; done))) | (refine Run.condT ?_ ?_; (· (simp -implicitDefEqProofs [ha]; done))) | (refine Run.condF ?_ ?_; (· (simp -implicitDefEqProofs [ha]; done))) | refine Run.exit rfl ?_))
  refine Run.opC rfl (by simp) rfl (rmayL_at b (by omega) _) ?_
  rintro v h' ⟨rfl, rfl⟩
  cases hb : okGo b (-1) with
  | false =>
    (repeat (first | refine Run.seq ?_ | refine Run.reg ?_ | refine Run.skip ?_ | refine Run.block ?_ | refine Run.endB ?_ | refine Run.opE rfl ?_ | (apply Run.op0 rfl; (· (simp -implicitDefEqProofs [hb]; exact ⟨rfl, rfl⟩))) | (apply Run.opA rfl; (· (simp -implicitDefEqProofs [hb]; done)); (· (simp -implicitDefEqProofs [hb]; exact ⟨rfl, rfl⟩))) | (apply Run.opN rfl; (· (simp -implicitDefEqProofs [hb]; done))) | (refine Run.condT ?_ ?_; (· (simp -implicitDefEqProofs [hb]; done))) | (refine Run.condF ?_ ?_; (· (simp -implicitDefEqProofs [hb]; done))) | refine Run.exit rfl ?_))
    refine Run.mv [] [(4, .vs [] 7), (5, .int .i64 1)] [] (by rfl) (by decide) (by simp -implicitDefEqProofs [VLe.nils]) (by simp -implicitDefEqProofs [VLe.nils]) ?_
    exact hbad (.inr hb) trivial
  | true =>
  (repeat (first | refine Run.seq ?_ | refine Run.reg ?_ | refine Run.skip ?_ | refine Run.block ?_ | refine Run.endB ?_ | refine Run.opE rfl ?_ | (apply Run.op0 rfl; (· (simp -implicitDefEqProofs [hb]; exact ⟨rfl, rfl⟩))) | (apply Run.opA rfl; (· (simp -implicitDefEqProofs [hb]; done)); (· (simp -implicitDefEqProofs [hb]; exact ⟨rfl, rfl⟩))) | (apply Run.opN rfl; (· (simp -implicitDefEqProofs [hb]; done))) | (refine Run.condT ?_ ?_; (· (simp -implicitDefEqProofs [hb]; done))) | (refine Run.condF ?_ ?_; (· (simp -implicitDefEqProofs [hb]; done))) | refine Run.exit rfl ?_))
  have hM : rjoinM a b = (rjoinGo a b a, 0) := by rw [rjoinM, if_pos ⟨ha, hb⟩]
  rw [hM]
  refine Run.loopC [] (fun (c : Nat × List Seen) => ([(0, .vs (a.map encS) 7), (1, .vs (b.map encS) 7), (6, .vs (c.2.map encS) 7), (7, .int .i64 c.1)], []))
    (fun c => c.1 ≤ b.length ∧ c.2.length ≤ a.length + c.1 ∧ rjoinGo a (b.drop c.1) c.2 = rjoinGo a b a) (fun c => b.length - c.1) (0, a) (by simp) (by rfl) (by decide) (by simp) (by simp) ?_
  rintro ⟨i, o⟩ ⟨hi, ho, hgo⟩ ih
  simp only at hi ho hgo ih ⊢
  by_cases hlt : i < b.length
  · obtain ⟨y, hy, hyi, hdrop, -⟩ := getL hlt
    have hw := wrap_small (n := (i : Int) + 1) (by omega) (by omega)
    (repeat (first | refine Run.seq ?_ | refine Run.reg ?_ | refine Run.skip ?_ | refine Run.block ?_ | refine Run.endB ?_ | refine Run.opE rfl ?_ | (apply Run.op0 rfl; (· (simp -implicitDefEqProofs [hlt, hy, hyi, encS]; exact ⟨rfl, rfl⟩))) | (apply Run.opA rfl; (· (simp -implicitDefEqProofs [hlt, hy, hyi, encS]; done)); (· (simp -implicitDefEqProofs [hlt, hy, hyi, encS]; exact ⟨rfl, rfl⟩))) | (apply Run.opN rfl; (· (simp -implicitDefEqProofs [hlt, hy, hyi, encS]; done))) | (refine Run.condT ?_ ?_; (· (simp -implicitDefEqProofs [hlt, hy, hyi, encS]; done))) | (refine Run.condF ?_ ?_; (· (simp -implicitDefEqProofs [hlt, hy, hyi, encS]; done))) | refine Run.exit rfl ?_))
    refine Run.opC rfl rfl rfl (by simpa using rfind_at a (by omega) y.client _) ?_
    rintro v h' ⟨rfl, rfl⟩
    (repeat (first | refine Run.seq ?_ | refine Run.reg ?_ | refine Run.skip ?_ | refine Run.block ?_ | refine Run.endB ?_ | refine Run.opE rfl ?_ | (apply Run.op0 rfl; (· (simp -implicitDefEqProofs; exact ⟨rfl, rfl⟩))) | (apply Run.opA rfl; (· (simp -implicitDefEqProofs; done)); (· (simp -implicitDefEqProofs; exact ⟨rfl, rfl⟩))) | (apply Run.opN rfl; (· (simp -implicitDefEqProofs; done))) | (refine Run.condT ?_ ?_; (· (simp -implicitDefEqProofs; done))) | (refine Run.condF ?_ ?_; (· (simp -implicitDefEqProofs; done))) | refine Run.exit rfl ?_))
    refine Run.quietM prog_mixed (by kernel_rfl) [] [(0, .vs (a.map encS) 7), (1, .vs (b.map encS) 7), (6, .vs (o.map encS) 7), (7, .int .i64 i), (45, .bool (newB a y))] [] (by rfl) (by decide) ?_ ?_
    · by_cases a1 : 0 ≤ findI a y.client 0
      · have hlt' := findI_lt a1
        obtain ⟨n, hn⟩ : ∃ n : Nat, findI a y.client 0 = n := ⟨_, (Int.toNat_of_nonneg a1).symm⟩
        obtain ⟨x, hx, -, -⟩ := get_lt (l := a) (i := n) (by omega)
        have hnn : ¬ (n : Int) < 0 := by omega
        (repeat (first | refine execQ_E rfl ?_ | (apply execQ_0 rfl; (· rfl); (· (simp -implicitDefEqProofs [hn, hx, hy, encS, hnn]; exact ⟨rfl, rfl⟩))) | (apply execQ_A rfl; (· (simp -implicitDefEqProofs [hn, hx, hy, encS, hnn]; done)); (· rfl); (· (simp -implicitDefEqProofs [hn, hx, hy, encS, hnn]; exact ⟨rfl, rfl⟩))) | (apply execQ_N rfl; (· (simp -implicitDefEqProofs [hn, hx, hy, encS, hnn]; done)))))
        simp [newB_find, hn, hx, hnn]
      · have a2 : findI a y.client 0 < 0 := by omega
        (repeat (first | refine execQ_E rfl ?_ | (apply execQ_0 rfl; (· rfl); (· (simp -implicitDefEqProofs [a2]; exact ⟨rfl, rfl⟩))) | (apply execQ_A rfl; (· (simp -implicitDefEqProofs [a2]; done)); (· rfl); (· (simp -implicitDefEqProofs [a2]; exact ⟨rfl, rfl⟩))) | (apply execQ_N rfl; (· (simp -implicitDefEqProofs [a2]; done)))))
        simp [newB_find, a2]
    rw [hdrop, rjoinGo] at hgo
    cases hn : newB a y with
    | true =>
      rw [hn, if_pos rfl] at hgo
      (repeat (first | refine Run.seq ?_ | refine Run.reg ?_ | refine Run.skip ?_ | refine Run.block ?_ | refine Run.endB ?_ | refine Run.opE rfl ?_ | (apply Run.op0 rfl; (· (simp -implicitDefEqProofs [hn, hy, encS]; exact ⟨rfl, rfl⟩))) | (apply Run.opA rfl; (· (simp -implicitDefEqProofs [hn, hy, encS]; done)); (· (simp -implicitDefEqProofs [hn, hy, encS]; exact ⟨rfl, rfl⟩))) | (apply Run.opN rfl; (· (simp -implicitDefEqProofs [hn, hy, encS]; done))) | (refine Run.condT ?_ ?_; (· (simp -implicitDefEqProofs [hn, hy, encS]; done))) | (refine Run.condF ?_ ?_; (· (simp -implicitDefEqProofs [hn, hy, encS]; done))) | refine Run.exit rfl ?_))
      refine Run.opC rfl rfl rfl (by simpa [encS] using rput_at o (by omega) y _) ?_
      rintro v h' ⟨rfl, rfl⟩
      (repeat (first | refine Run.seq ?_ | refine Run.reg ?_ | refine Run.skip ?_ | refine Run.block ?_ | refine Run.endB ?_ | refine Run.opE rfl ?_ | (apply Run.op0 rfl; (· (simp -implicitDefEqProofs; exact ⟨rfl, rfl⟩))) | (apply Run.opA rfl; (· (simp -implicitDefEqProofs; done)); (· (simp -implicitDefEqProofs; exact ⟨rfl, rfl⟩))) | (apply Run.opN rfl; (· (simp -implicitDefEqProofs; done))) | (refine Run.condT ?_ ?_; (· (simp -implicitDefEqProofs; done))) | (refine Run.condF ?_ ?_; (· (simp -implicitDefEqProofs; done))) | refine Run.exit rfl ?_))
      refine Run.mv [] _ _ (by rfl) (by decide) (by simp -implicitDefEqProofs [hw]) (by simp -implicitDefEqProofs [hw]) (ih ((i + 1, rputGo o y false)) ?_ ?_)
      · have := rputGo_len o y false
        exact ⟨by omega, by simp at this; simp only; omega, hgo⟩
      · simp only; omega
    | false =>
      rw [hn, if_neg (by decide)] at hgo
      (repeat (first | refine Run.seq ?_ | refine Run.reg ?_ | refine Run.skip ?_ | refine Run.block ?_ | refine Run.endB ?_ | refine Run.opE rfl ?_ | (apply Run.op0 rfl; (· (simp -implicitDefEqProofs [hn]; exact ⟨rfl, rfl⟩))) | (apply Run.opA rfl; (· (simp -implicitDefEqProofs [hn]; done)); (· (simp -implicitDefEqProofs [hn]; exact ⟨rfl, rfl⟩))) | (apply Run.opN rfl; (· (simp -implicitDefEqProofs [hn]; done))) | (refine Run.condT ?_ ?_; (· (simp -implicitDefEqProofs [hn]; done))) | (refine Run.condF ?_ ?_; (· (simp -implicitDefEqProofs [hn]; done))) | refine Run.exit rfl ?_))
      refine Run.mv [] _ _ (by rfl) (by decide) (by simp -implicitDefEqProofs [hw]) (by simp -implicitDefEqProofs [hw]) (ih ((i + 1, o)) ?_ ?_)
      · exact ⟨by omega, by simp only; omega, hgo⟩
      · simp only; omega
  · (repeat (first | refine Run.seq ?_ | refine Run.reg ?_ | refine Run.skip ?_ | refine Run.block ?_ | refine Run.endB ?_ | refine Run.opE rfl ?_ | (apply Run.op0 rfl; (· (simp -implicitDefEqProofs [hlt]; exact ⟨rfl, rfl⟩))) | (apply Run.opA rfl; (· (simp -implicitDefEqProofs [hlt]; done)); (· (simp -implicitDefEqProofs [hlt]; exact ⟨rfl, rfl⟩))) | (apply Run.opN rfl; (· (simp -implicitDefEqProofs [hlt]; done))) | (refine Run.condT ?_ ?_; (· (simp -implicitDefEqProofs [hlt]; done))) | (refine Run.condF ?_ ?_; (· (simp -implicitDefEqProofs [hlt]; done))) | refine Run.exit rfl ?_))
    refine Run.mv [] [(4, .vs (o.map encS) 7), (5, .int .i64 0)] [] (by rfl) (by decide) (by simp -implicitDefEqProofs) (by simp -implicitDefEqProofs) ?_
    refine Run.retI Try.func20 r20_ok trivial (by simp -implicitDefEqProofs [r20]; rfl) (by simp ) ?_ (by simp -implicitDefEqProofs ) (by simp -implicitDefEqProofs )
    rw [List.drop_eq_nil_of_le (by omega), rjoinGo] at hgo
    simp [hgo]

theorem rjoin_at (a b : List Seen) (hla : a.length ≤ 1000) (hlb : b.length ≤ 1000) (H : List O) : Tri Try.prog 20 [.vs (a.map encS) 7, .vs (b.map encS) 7] H (fun v H' => v = .tup [.vs ((joinM a b).1.map encS) 7, .int .i64 (joinM a b).2] ∧ H' = H) := by
  rw [rjoin_eq]; exact (rjoin_tri a b hla hlb).at rfl rfl H

end Go.Proofs.Yticecideodkcmaa
