/- A part of the proof that AliasThings and AliasMeets return true for every module: texts on an abstract reading of the code (AlW7, AlW8, AlP1). -/
import Derived.Test.YtdmaniffgdpfeaaXAlW6
import Derived.Test.YtdmaniffgdpfeaaXAlR8
set_option linter.unusedVariables false
set_option linter.unusedSimpArgs false
set_option linter.unusedSectionVars false
set_option maxRecDepth 100000
set_option maxHeartbeats 1000000
set_option linter.unusedSimpArgs false
set_option linter.unusedVariables false
namespace Go.Am
open Go Go.Proofs
theorem af_view0 {x : AView} {h K} : afield Try.prog 101 0 h K (.iptr x.enc) = K (.iptr x.p.enc) h := by simp only [AView.enc, go_sem, Nat.reduceAdd]
theorem af_view1 {x : AView} {h K} : afield Try.prog 101 1 h K (.iptr x.enc) = K (.iptr (I x.T)) h := by simp only [AView.enc, go_sem, Nat.reduceAdd]
theorem af_view2 {x : AView} {h K} : afield Try.prog 101 2 h K (.iptr x.enc) = K (.iptr (.il 1 (x.st.regs.map rowIl))) h := by simp only [AView.enc, go_sem, Nat.reduceAdd]
theorem af_view3 {x : AView} {h K} : afield Try.prog 101 3 h K (.iptr x.enc) = K (.iptr (rowIl x.st.out)) h := by simp only [AView.enc, rowIl, go_sem, Nat.reduceAdd]
theorem af_view4 {x : AView} {h K} : afield Try.prog 101 4 h K (.iptr x.enc) = K (.iptr (.il 4 (x.sp.map Spot.enc))) h := by simp only [AView.enc, rowIl, go_sem, Nat.reduceAdd]
theorem shape_rowIl {ws : List W64} {t} : shapeOk Try.prog t (rowIl ws) = (isAggB Try.prog t = some false) := nr rfl
attribute [go_sem] af_view0 af_view1 af_view2 af_view3 af_view4 shape_rowIl
theorem aindex_row {h : Heap} {K : AV → Heap → Prop} {ws : List W64} {k : IntKind} {n : Nat} : aindex Try.prog 99 h K (rowIl ws) (.val (.int k n)) = (n < ws.length ∧ K (.iptr (U64 (ws.getD n 0))) h) := by
  rw [rowIl, aindex_il]
  by_cases hn : n < ws.length
  · have hg := getD_map U64 ws hn
    have hb : ABound (n : Int) (List.length (ws.map U64)) := by rw [List.length_map]; exact bnd hn
    simp only [toNatC, hg, getD_eq hn, go_sem]
    simp only [List.length_map] at hb
    simp [hn, hb]
  · have hb : ¬ ABound (n : Int) (List.length (ws.map U64)) := by
      intro hb; unfold ABound at hb; rw [List.length_map] at hb; omega
    rw [List.length_map] at hb ⊢
    simp only [hb, hn, false_and, and_false]
theorem alen_row {h : Heap} {K : AV → Heap → Prop} {ws : List W64} : alen h K (rowIl ws) = K (I ws.length) h := by simp only [rowIl, go_sem]
attribute [go_sem] aindex_row alen_row
theorem run72 (v : AView) (r : Int) (h : Heap) (K) (hK : K (B (decide (0 ≤ r) && decide (r < v.st.regs.length))) h) : RunsK Try.prog 72 [.iptr v.enc, I r] h K := by
  refine RunsK.intro Try.func72 rfl (by decide) (by simp only [Try.f72, go_sem]; decide) ?_
  simp only [Try.f72]
  simp only [go_sem, Nat.reduceAdd, Nat.reduceMul, Nat.reduceEqDiff, Nat.reduceLeDiff, List.range_zero, List.drop_zero, List.nil_append, reduceIte]
  have fin : ∀ b, b = (decide (0 ≤ r) && decide (r < v.st.regs.length)) → WRet h K (B b) h := fun b e => by
    subst e; exact WRet.val .refl hK
  refine AIf_intro (fun hb => ?_) (fun hb => ?_) <;> simp only [hb, go_sem, Nat.reduceAdd, Nat.reduceMul, Nat.reduceEqDiff, Nat.reduceLeDiff, List.range_zero, List.drop_zero, List.nil_append, reduceIte]
  · exact fin _ (by simp at hb; simp [hb])
  · exact fin _ (by simp at hb; simp; omega)
theorem run72n (r : Int) (h : Heap) (K) (hK : K (B false) h) : RunsK Try.prog 72 [.val (.pointer none), I r] h K := by
  refine RunsK.intro Try.func72 rfl (by decide) (by simp only [Try.f72, go_sem]; decide) ?_
  simp only [Try.f72]
  simp only [go_sem, Nat.reduceAdd, Nat.reduceMul, Nat.reduceEqDiff, Nat.reduceLeDiff, List.range_zero, List.drop_zero, List.nil_append, reduceIte]
  exact WRet.val .refl hK
def meetsW (a b : List W64) : Bool := (a.zip b).any fun x => decide (x.1 &&& x.2 ≠ 0#64)
theorem run73 (a b : List W64) (hl : b.length = a.length) (hlim : a.length < 9223372036854775808) (h : Heap) (K) (hK : K (B (meetsW a b)) h) : RunsK Try.prog 73 [rowIl a, rowIl b] h K := by
  refine RunsK.intro Try.func73 rfl (by decide) (by simp only [Try.f73, go_sem]; decide) ?_
  simp only [Try.f73]
  simp only [go_sem, Nat.reduceAdd, Nat.reduceMul, Nat.reduceEqDiff, Nat.reduceLeDiff, List.range_zero, List.drop_zero, List.nil_append, reduceIte]
  refine aLoop_nat [0, 7, 8, 9] b.length (fun k vs hh => hh = h ∧ meetsW (a.drop k) (b.drop k) = meetsW a b ∧ vs = [rowIl a, rowIl b, I b.length, I k]) ?_ ?_
  · simp only [go_sem, Nat.reduceAdd, Nat.reduceMul, Nat.reduceEqDiff, Nat.reduceLeDiff, List.range_zero, List.drop_zero, List.nil_append, reduceIte] <;> simp
  · rintro k vs hh hk - ⟨rfl, hm, rfl⟩ I' μ m hn
    simp only [ltI, go_sem, Nat.reduceAdd, Nat.reduceMul, Nat.reduceEqDiff, Nat.reduceLeDiff, List.range_zero, List.drop_zero, List.nil_append, reduceIte]
    refine AIf_intro (fun hlt => ?_) (fun hge => ?_)
    · simp only [decide_eq_true_eq] at hlt
      have hka : k < a.length := by omega
      have e : meetsW (a.drop k) (b.drop k) = (decide (a[k] &&& b[k] ≠ 0#64) || meetsW (a.drop (k + 1)) (b.drop (k + 1))) := by
        rw [List.drop_eq_getElem_cons hlt, List.drop_eq_getElem_cons hka]; rfl
      rw [e] at hm
      simp only [hlt, hka, getD_eq hlt, getD_eq hka, go_sem, Nat.reduceAdd, Nat.reduceMul, Nat.reduceEqDiff, Nat.reduceLeDiff, List.range_zero, List.drop_zero, List.nil_append, reduceIte]
      refine AIf_intro (fun hb => ?_) (fun hb => ?_)
      · simp only [go_sem, Nat.reduceAdd, Nat.reduceMul, Nat.reduceEqDiff, Nat.reduceLeDiff, List.range_zero, List.drop_zero, List.nil_append, reduceIte]
        rw [hb] at hm
        refine WRet.bool .refl hK ?_
        rw [← hm]; rfl
      · rw [hb] at hm
        simp only [inc64 hlt (by omega : b.length < 9223372036854775808), go_sem, Nat.reduceAdd, Nat.reduceMul, Nat.reduceEqDiff, Nat.reduceLeDiff, List.range_zero, List.drop_zero, List.nil_append, reduceIte]
        exact hn _ _ hlt ⟨rfl, by rw [← hm]; simp, rfl⟩
    · simp only [decide_eq_false_iff_not] at hge
      simp only [go_sem, Nat.reduceAdd, Nat.reduceMul, Nat.reduceEqDiff, Nat.reduceLeDiff, List.range_zero, List.drop_zero, List.nil_append, reduceIte]
      refine WRet.bool .refl hK ?_
      rw [← hm, List.drop_eq_nil_of_le (show b.length ≤ k by omega)]
      simp [meetsW]
def isMem (i : MIns) : Bool := decide (i.op = 5) || decide (i.op = 6)
theorem run71 (i : MIns) (h : Heap) (K) (hK : K (B (isMem i)) h) : RunsK Try.prog 71 [i.enc] h K := by
  refine RunsK.intro Try.func71 rfl (by decide) (by simp only [Try.f71, go_sem]; decide) ?_
  simp only [Try.f71]
  simp only [go_sem, Nat.reduceAdd, Nat.reduceMul, Nat.reduceEqDiff, Nat.reduceLeDiff, List.range_zero, List.drop_zero, List.nil_append, reduceIte]
  refine AIf_intro (fun hb => ?_) (fun hb => ?_) <;> simp only [hb, go_sem, Nat.reduceAdd, Nat.reduceMul, Nat.reduceEqDiff, Nat.reduceLeDiff, List.range_zero, List.drop_zero, List.nil_append, reduceIte]
  · exact WRet.bool .mk hK (by simp [isMem, hb])
  · exact WRet.bool .mk hK (by simp [isMem, hb])
theorem bit_one (w : W64) (n : Nat) (hn : n < 64) : decide ((w >>> n) &&& 1#64 = 1#64) = w.getLsbD n := by
  rw [Bool.eq_iff_iff, decide_eq_true_eq]
  constructor
  · intro h
    have := congrArg (fun x : W64 => x.getLsbD 0) h
    simpa using this
  · intro h
    apply BitVec.eq_of_getLsbD_eq
    intro i hi
    rw [BitVec.getLsbD_and, BitVec.getLsbD_ushiftRight]
    by_cases e : i = 0
    · subst e; simp [h]
    · have : (1#64).getLsbD i = false := by
        rw [BitVec.getLsbD_ofNat]
        simp only [Bool.and_eq_false_iff]
        right
        rw [Bool.eq_false_iff]
        intro h1
        exact e (Nat.testBit_one_eq_true_iff_self_eq_zero.1 h1)
      rw [this]; simp
theorem run124 (ws : List W64) (n : Nat) (hn : n / 64 < ws.length) (hn2 : n < 9223372036854775808) (h : Heap) (K) (hK : K (B (has ws n)) h) : RunsK Try.prog 124 [rowIl ws, I n] h K := by
  refine RunsK.intro Try.func124 rfl (by decide) (by simp only [Try.f124, go_sem]; decide) ?_
  simp only [Try.f124]
  simp only [quo64 n hn2, rem64, hn, bit_one _ _ (Nat.mod_lt n (by decide : 0 < 64)), go_sem, Nat.reduceAdd, Nat.reduceMul, Nat.reduceEqDiff, Nat.reduceLeDiff, List.range_zero, List.drop_zero, List.nil_append, reduceIte]
  exact WRet.val .refl hK
def things (T : Nat) (ws : List W64) : List AV := ((List.range T).filter (has ws)).map fun t : Nat => I t
theorem rb_things {n T ws} : ∀ x ∈ things T ws, RB n x := by
  intro x hx
  obtain ⟨t, -, rfl⟩ := List.mem_map.1 hx
  exact .val _
theorem things_succ {T ws} : things (T + 1) ws = things T ws ++ (if has ws T then [I (T : Nat)] else []) := by
  unfold things
  rw [List.range_succ, List.filter_append, List.map_append]
  congr 1
  by_cases h : has ws T <;> simp [h]
theorem things_len {T ws} : (things T ws).length ≤ T := by
  unfold things
  rw [List.length_map]
  exact Nat.le_trans (List.length_filter_le _ _) (by simp)
theorem run74 (v : AView) (ws : List W64) (hT : v.T < 1099511627776) (hw : ws.length = (v.T + 63) / 64) (h : Heap) (K) (hK : K (.il 1 (things v.T ws)) h) : RunsK Try.prog 74 [.iptr v.enc, rowIl ws] h K := by
  refine RunsK.intro Try.func74 rfl (by decide) (by simp only [Try.f74, go_sem]; decide) ?_
  simp only [Try.f74]
  simp only [go_sem, Nat.reduceAdd, Nat.reduceMul, Nat.reduceEqDiff, Nat.reduceLeDiff, List.range_zero, List.drop_zero, List.nil_append, reduceIte]
  refine aLoop_nat [0, 1, 5, 10, 11] v.T (fun k vs hh => ∃ a, Acc h 3 1 hh a (things k ws) ∧ vs = [.iptr v.enc, rowIl ws, a, I v.T, I k]) ?_ ?_
  · simp only [go_sem, Nat.reduceAdd, Nat.reduceMul, Nat.reduceEqDiff, Nat.reduceLeDiff, List.range_zero, List.drop_zero, List.nil_append, reduceIte]
    exact ⟨_, .nil .refl, rfl⟩
  · rintro k vs hh hk - ⟨a, A, rfl⟩ I' μ m hn
    simp only [ltI, go_sem, Nat.reduceAdd, Nat.reduceMul, Nat.reduceEqDiff, Nat.reduceLeDiff, List.range_zero, List.drop_zero, List.nil_append, reduceIte]
    refine AIf_intro (fun hlt => ?_) (fun hge => ?_)
    · simp only [decide_eq_true_eq] at hlt
      simp only [go_sem, Nat.reduceAdd, Nat.reduceMul, Nat.reduceEqDiff, Nat.reduceLeDiff, List.range_zero, List.drop_zero, List.nil_append, reduceIte]
      refine run124 ws k (by omega) (by omega) _ _ ?_
      simp only [go_sem, Nat.reduceAdd, Nat.reduceMul, Nat.reduceEqDiff, Nat.reduceLeDiff, List.range_zero, List.drop_zero, List.nil_append, reduceIte]
      refine AIf_intro (fun hb => ?_) (fun hb => ?_)
      · simp only [go_sem, Nat.reduceAdd, Nat.reduceMul, Nat.reduceEqDiff, Nat.reduceLeDiff, List.range_zero, List.drop_zero, List.nil_append, reduceIte]
        refine A.push rfl ⟨rfl, rfl⟩ ?_ fun a' h' A' => ?_
        · have := things_len (T := k) (ws := ws)
          simp only [go_sem, Nat.reduceAdd, Nat.reduceMul, Nat.reduceEqDiff, Nat.reduceLeDiff, List.range_zero, List.drop_zero, List.nil_append, reduceIte]
          exact ⟨by omega, by omega⟩
        · simp only [inc64 hlt (by omega : v.T < 9223372036854775808), go_sem, Nat.reduceAdd, Nat.reduceMul, Nat.reduceEqDiff, Nat.reduceLeDiff, List.range_zero, List.drop_zero, List.nil_append, reduceIte]
          refine hn _ _ hlt ⟨a', ?_, rfl⟩
          rw [things_succ, if_pos hb]; exact A'
      · simp only [inc64 hlt (by omega : v.T < 9223372036854775808), go_sem, Nat.reduceAdd, Nat.reduceMul, Nat.reduceEqDiff, Nat.reduceLeDiff, List.range_zero, List.drop_zero, List.nil_append, reduceIte]
        refine hn _ _ hlt ⟨a, ?_, rfl⟩
        rw [things_succ, if_neg (by simp [hb]), List.append_nil]; exact A
    · simp only [decide_eq_false_iff_not] at hge
      simp only [go_sem, Nat.reduceAdd, Nat.reduceMul, Nat.reduceEqDiff, Nat.reduceLeDiff, List.range_zero, List.drop_zero, List.nil_append, reduceIte]
      have hkT : k = v.T := by omega
      rw [hkT] at A
      exact A.ret .refl rb_things hK
end Go.Am

set_option maxRecDepth 100000
set_option maxHeartbeats 1000000
set_option linter.unusedSimpArgs false
set_option linter.unusedVariables false
namespace Go.Am
open Go Go.Proofs
def AView.reg (v : AView) (r : Int) : Bool := decide (0 ≤ r) && decide (r < v.st.regs.length)
theorem run21 (v : AView) (r : Int) (W : Nat) (hwf : v.st.WF v.st.regs.length W) (hT : v.T < 1099511627776) (hW : W = (v.T + 63) / 64) (h : Heap) (K)
    (hK : K (.il 1 (if v.reg r then things v.T (v.st.regs.getD r.toNat []) else [])) h) : RunsK Try.prog 21 [.iptr v.enc, I r] h K := by
  refine RunsK.intro Try.func21 rfl (by decide) (by simp only [Try.f21, go_sem]; decide) ?_
  simp only [Try.f21]
  simp only [go_sem, Nat.reduceAdd, Nat.reduceMul, Nat.reduceEqDiff, Nat.reduceLeDiff, List.range_zero, List.drop_zero, List.nil_append, reduceIte]
  refine run72 v r _ _ ?_
  have hr0 : (decide (0 ≤ r) && decide (r < v.st.regs.length)) = v.reg r := rfl
  rw [hr0]
  cases hr : v.reg r with
  | false =>
    simp only [go_sem, Nat.reduceAdd, Nat.reduceMul, Nat.reduceEqDiff, Nat.reduceLeDiff, List.range_zero, List.drop_zero, List.nil_append, reduceIte]
    rw [hr] at hK
    exact WRet.of .refl (.nil 1) (by simp) hK
  | true =>
    rw [hr] at hK
    simp only [AView.reg, Bool.and_eq_true, decide_eq_true_eq] at hr
    obtain ⟨k, rfl⟩ : ∃ k : Nat, r = k := ⟨r.toNat, by omega⟩
    have hk : k < v.st.regs.length := by omega
    have hgd := getD_map rowIl v.st.regs hk
    have hl := hwf.row _ (List.getElem_mem hk)
    simp only [aindex_map, bnd hk, hgd, toNatC, go_sem, Nat.reduceAdd, Nat.reduceMul, Nat.reduceEqDiff, Nat.reduceLeDiff, List.range_zero, List.drop_zero, List.nil_append, reduceIte]
    refine run74 v _ hT (by rw [hl, hW]) _ _ ?_
    simp only [go_sem, Nat.reduceAdd, Nat.reduceMul, Nat.reduceEqDiff, Nat.reduceLeDiff, List.range_zero, List.drop_zero, List.nil_append, reduceIte]
    rw [if_pos rfl, toNatC, getD_eq hk] at hK
    exact WRet.of .refl (.pure _ (.il _ _ fun x hx => by
      have : ∀ l : List Nat, x ∈ flats (l.map fun t : Nat => I t) → RB h.length x := fun l hx => by rw [flats_vals] at hx; obtain ⟨t, -, rfl⟩ := List.mem_map.1 hx; exact .val _
      exact this _ hx)) (by simp) hK
theorem run21n (r : Int) (h : Heap) (K) (hK : K (.il 1 []) h) : RunsK Try.prog 21 [.val (.pointer none), I r] h K := by
  refine RunsK.intro Try.func21 rfl (by decide) (by simp only [Try.f21, go_sem]; decide) ?_
  simp only [Try.f21]
  simp only [go_sem, Nat.reduceAdd, Nat.reduceMul, Nat.reduceEqDiff, Nat.reduceLeDiff, List.range_zero, List.drop_zero, List.nil_append, reduceIte]
  refine run72n r _ _ ?_
  simp only [go_sem, Nat.reduceAdd, Nat.reduceMul, Nat.reduceEqDiff, Nat.reduceLeDiff, List.range_zero, List.drop_zero, List.nil_append, reduceIte]
  exact WRet.of .refl (.nil 1) (by simp) hK
theorem run22 (v : AView) (hl : v.st.out.length = (v.T + 63) / 64) (hT : v.T < 1099511627776) (h : Heap) (K) (hK : K (.il 1 (things v.T v.st.out)) h) : RunsK Try.prog 22 [.iptr v.enc] h K := by
  refine RunsK.intro Try.func22 rfl (by decide) (by simp only [Try.f22, go_sem]; decide) ?_
  simp only [Try.f22]
  simp only [go_sem, Nat.reduceAdd, Nat.reduceMul, Nat.reduceEqDiff, Nat.reduceLeDiff, List.range_zero, List.drop_zero, List.nil_append, reduceIte]
  refine run74 v _ hT hl _ _ ?_
  simp only [go_sem, Nat.reduceAdd, Nat.reduceMul, Nat.reduceEqDiff, Nat.reduceLeDiff, List.range_zero, List.drop_zero, List.nil_append, reduceIte]
  exact WRet.of .refl (.pure _ (.il _ _ fun x hx => by
      have : ∀ l : List Nat, x ∈ flats (l.map fun t : Nat => I t) → RB h.length x := fun l hx => by rw [flats_vals] at hx; obtain ⟨t, -, rfl⟩ := List.mem_map.1 hx; exact .val _
      exact this _ hx)) (by simp) hK
theorem run22n (h : Heap) (K) (hK : K (.il 1 []) h) : RunsK Try.prog 22 [.val (.pointer none)] h K := by
  refine RunsK.intro Try.func22 rfl (by decide) (by simp only [Try.f22, go_sem]; decide) ?_
  simp only [Try.f22]
  simp only [go_sem, Nat.reduceAdd, Nat.reduceMul, Nat.reduceEqDiff, Nat.reduceLeDiff, List.range_zero, List.drop_zero, List.nil_append, reduceIte]
  exact WRet.of .refl (.nil 1) (by simp) hK
/-- a register's exact place -/
def AView.exact (v : AView) (r : Int) : Spot := if v.reg r = true ∧ (v.sp.getD r.toNat .none).sets = 1 ∧ (v.sp.getD r.toNat .none).is = true then ⟨(v.sp.getD r.toNat .none).thing, (v.sp.getD r.toNat .none).off, 1, true⟩ else .none
theorem run23 (v : AView) (r : Int) (hs : v.sp.length = v.st.regs.length) (h : Heap) (K) (hK : K (.tup [I (v.exact r).thing, I (v.exact r).off, B (v.exact r).is]) h) : RunsK Try.prog 23 [.iptr v.enc, I r] h K := by
  refine RunsK.intro Try.func23 rfl (by decide) (by simp only [Try.f23, go_sem]; decide) ?_
  simp only [Try.f23]
  simp only [go_sem, Nat.reduceAdd, Nat.reduceMul, Nat.reduceEqDiff, Nat.reduceLeDiff, List.range_zero, List.drop_zero, List.nil_append, reduceIte]
  refine run72 v r _ _ ?_
  have hr0 : (decide (0 ≤ r) && decide (r < v.st.regs.length)) = v.reg r := rfl
  rw [hr0]
  have bad : v.exact r = .none → WRet h K (.tup [I 0, I 0, B false]) h := fun e => by
    rw [e] at hK
    exact WRet.vals (vs := [.int .i64 0, .int .i64 0, .bool false]) .refl hK
  cases hr : v.reg r with
  | false =>
    simp only [go_sem, Nat.reduceAdd, Nat.reduceMul, Nat.reduceEqDiff, Nat.reduceLeDiff, List.range_zero, List.drop_zero, List.nil_append, reduceIte]
    exact bad (by rw [AView.exact, if_neg (by simp [hr])])
  | true =>
    have hr' := hr
    simp only [AView.reg, Bool.and_eq_true, decide_eq_true_eq] at hr
    obtain ⟨k, rfl⟩ : ∃ k : Nat, r = k := ⟨r.toNat, by omega⟩
    have hk : k < v.sp.length := by omega
    have hgd := getD_map Spot.enc v.sp hk
    unfold AView.exact at hK bad
    rw [toNatC, getD_eq hk] at hK bad
    generalize v.sp[k] = s at hK bad hgd
    have h0 : afield Try.prog 106 0 = fun h K => afield Try.prog 106 0 h K := rfl
    simp only [aindex_map, bnd hk, hgd, toNatC, Spot.enc, go_sem, Nat.reduceAdd, Nat.reduceMul, Nat.reduceEqDiff, Nat.reduceLeDiff, List.range_zero, List.drop_zero, List.nil_append, reduceIte]
    refine AIf_intro (fun h1 => ?_) (fun h1 => ?_)
    · have h1' : s.sets = 1 := by simpa using h1
      simp only [h1, aindex_map, bnd hk, hgd, toNatC, Spot.enc, go_sem, Nat.reduceAdd, Nat.reduceMul, Nat.reduceEqDiff, Nat.reduceLeDiff, List.range_zero, List.drop_zero, List.nil_append, reduceIte]
      cases h2 : s.is with
      | false =>
        simp only [h2, go_sem, Nat.reduceAdd, Nat.reduceMul, Nat.reduceEqDiff, Nat.reduceLeDiff, List.range_zero, List.drop_zero, List.nil_append, reduceIte]
        exact bad (by rw [if_neg (by simp [h2])])
      | true =>
        rw [if_pos ⟨hr', h1', h2⟩] at hK
        simp only [h2, go_sem, Nat.reduceAdd, Nat.reduceMul, Nat.reduceEqDiff, Nat.reduceLeDiff, List.range_zero, List.drop_zero, List.nil_append, reduceIte]
        refine aw_drawn st23_3 mixed (by kernel_rfl) ?_
        simp only [aindex_map, bnd hk, hgd, toNatC, Spot.enc, go_sem, Nat.reduceAdd, Nat.reduceMul, Nat.reduceEqDiff, Nat.reduceLeDiff, List.range_zero, List.drop_zero, List.nil_append, reduceIte]
        exact WRet.vals (vs := [.int .i64 s.thing, .int .i64 s.off, .bool true]) .refl hK
    · have h1' : ¬ s.sets = 1 := by simpa using h1
      simp only [h1, go_sem, Nat.reduceAdd, Nat.reduceMul, Nat.reduceEqDiff, Nat.reduceLeDiff, List.range_zero, List.drop_zero, List.nil_append, reduceIte]
      exact bad (by rw [if_neg (by simp [h1'])])
/-- may two loads or stores meet? -/
def AView.meet (v : AView) (a b : MIns) : Bool :=
  isMem a && isMem b && v.reg a.a && v.reg b.a && meetsW (v.st.regs.getD a.a.toNat []) (v.st.regs.getD b.a.toNat []) &&
    (!(v.exact a.a).is || !(v.exact b.a).is || (decide ((v.exact a.a).off + a.off < (v.exact b.a).off + b.off + b.size) && decide ((v.exact b.a).off + b.off < (v.exact a.a).off + a.off + a.size)))
theorem run20 (v : AView) (a b : MIns) (W : Nat) (hwf : v.st.WF v.st.regs.length W) (hW : W < 9223372036854775808) (hs : v.sp.length = v.st.regs.length)
    (ha : isMem a = true → (-32768 ≤ a.off ∧ a.off ≤ 32768) ∧ 0 ≤ a.size ∧ a.size ≤ 4) (hb : isMem b = true → (-32768 ≤ b.off ∧ b.off ≤ 32768) ∧ 0 ≤ b.size ∧ b.size ≤ 4)
    (hoff : ∀ r, -32768 ≤ (v.exact r).off ∧ (v.exact r).off ≤ 32768) (h : Heap) (K) (hK : K (B (v.meet a b)) h) : RunsK Try.prog 20 [.iptr v.enc, a.enc, b.enc] h K := by
  refine RunsK.intro Try.func20 rfl (by decide) (by simp only [Try.f20, go_sem]; decide) ?_
  simp only [Try.f20]
  simp only [go_sem, Nat.reduceAdd, Nat.reduceMul, Nat.reduceEqDiff, Nat.reduceLeDiff, List.range_zero, List.drop_zero, List.nil_append, reduceIte]
  have fin : ∀ g x, x = v.meet a b → WRet h K (B x) (h ++ g) := fun g x e => WRet.bool .mk hK e
  have g1 : (h ++ [some (AObj.arr 39 11 [a.enc]), some (AObj.arr 39 11 [b.enc])]) = (h ++ [some (AObj.arr 39 11 [a.enc]), some (AObj.arr 39 11 [b.enc])]) := rfl
  refine aw_drawn st20_1 mixed (by kernel_rfl) ?_
  have hr0 : ∀ r : Int, (decide (0 ≤ r) && decide (r < v.st.regs.length)) = v.reg r := fun r => rfl
  simp only [go_sem, Nat.reduceAdd, Nat.reduceMul, Nat.reduceEqDiff, Nat.reduceLeDiff, List.range_zero, List.drop_zero, List.nil_append, reduceIte]
  refine run71 a _ _ ?_
  cases hma : isMem a with
  | false =>
    simp only [go_sem, Nat.reduceAdd, Nat.reduceMul, Nat.reduceEqDiff, Nat.reduceLeDiff, List.range_zero, List.drop_zero, List.nil_append, reduceIte]
    exact fin _ _ (by simp [AView.meet, hma])
  | true =>
  simp only [go_sem, Nat.reduceAdd, Nat.reduceMul, Nat.reduceEqDiff, Nat.reduceLeDiff, List.range_zero, List.drop_zero, List.nil_append, reduceIte]
  refine run71 b _ _ ?_
  cases hmb : isMem b with
  | false =>
    simp only [go_sem, Nat.reduceAdd, Nat.reduceMul, Nat.reduceEqDiff, Nat.reduceLeDiff, List.range_zero, List.drop_zero, List.nil_append, reduceIte]
    exact fin _ _ (by simp [AView.meet, hmb])
  | true =>
  simp only [go_sem, Nat.reduceAdd, Nat.reduceMul, Nat.reduceEqDiff, Nat.reduceLeDiff, List.range_zero, List.drop_zero, List.nil_append, reduceIte]
  refine run72 v a.a _ _ ?_
  rw [hr0]
  cases hra : v.reg a.a with
  | false =>
    simp only [go_sem, Nat.reduceAdd, Nat.reduceMul, Nat.reduceEqDiff, Nat.reduceLeDiff, List.range_zero, List.drop_zero, List.nil_append, reduceIte]
    exact fin _ _ (by simp [AView.meet, hra])
  | true =>
  simp only [go_sem, Nat.reduceAdd, Nat.reduceMul, Nat.reduceEqDiff, Nat.reduceLeDiff, List.range_zero, List.drop_zero, List.nil_append, reduceIte]
  refine run72 v b.a _ _ ?_
  rw [hr0]
  cases hrb : v.reg b.a with
  | false =>
    simp only [go_sem, Nat.reduceAdd, Nat.reduceMul, Nat.reduceEqDiff, Nat.reduceLeDiff, List.range_zero, List.drop_zero, List.nil_append, reduceIte]
    exact fin _ _ (by simp [AView.meet, hrb])
  | true =>
  have hra' := hra
  have hrb' := hrb
  simp only [AView.reg, Bool.and_eq_true, decide_eq_true_eq] at hra' hrb'
  obtain ⟨j, hj⟩ : ∃ k : Nat, a.a = k := ⟨a.a.toNat, by omega⟩
  obtain ⟨k, hk⟩ : ∃ k : Nat, b.a = k := ⟨b.a.toNat, by omega⟩
  have hjl : j < v.st.regs.length := by omega
  have hkl : k < v.st.regs.length := by omega
  have gj := getD_map rowIl v.st.regs hjl
  have gk := getD_map rowIl v.st.regs hkl
  have lj := hwf.row _ (List.getElem_mem hjl)
  have lk := hwf.row _ (List.getElem_mem hkl)
  simp only [aindex_map, hj, hk, bnd hjl, bnd hkl, gj, gk, toNatC, go_sem, Nat.reduceAdd, Nat.reduceMul, Nat.reduceEqDiff, Nat.reduceLeDiff, List.range_zero, List.drop_zero, List.nil_append, reduceIte]
  refine run73 _ _ (by omega) (by omega) _ _ ?_
  have em : v.meet a b = (meetsW v.st.regs[j] v.st.regs[k] && (!(v.exact a.a).is || !(v.exact b.a).is || (decide ((v.exact a.a).off + a.off < (v.exact b.a).off + b.off + b.size) && decide ((v.exact b.a).off + b.off < (v.exact a.a).off + a.off + a.size)))) := by
    rw [AView.meet, hma, hmb, hra, hrb, hj, hk, toNatC, toNatC, getD_eq hjl, getD_eq hkl]; simp
  cases hmt : meetsW v.st.regs[j] v.st.regs[k] with
  | false =>
    simp only [go_sem, Nat.reduceAdd, Nat.reduceMul, Nat.reduceEqDiff, Nat.reduceLeDiff, List.range_zero, List.drop_zero, List.nil_append, reduceIte]
    exact fin _ _ (by rw [em, hmt]; rfl)
  | true =>
  rw [hmt, Bool.true_and] at em
  have ob1 := ha hma
  have ob2 := hb hmb
  have oa := hoff a.a
  have obb := hoff b.a
  simp only [go_sem, Nat.reduceAdd, Nat.reduceMul, Nat.reduceEqDiff, Nat.reduceLeDiff, List.range_zero, List.drop_zero, List.nil_append, reduceIte]
  refine run23 v _ hs _ _ ?_
  rw [← hj]
  simp only [go_sem, Nat.reduceAdd, Nat.reduceMul, Nat.reduceEqDiff, Nat.reduceLeDiff, List.range_zero, List.drop_zero, List.nil_append, reduceIte]
  refine run23 v _ hs _ _ ?_
  rw [← hk]
  simp only [go_sem, Nat.reduceAdd, Nat.reduceMul, Nat.reduceEqDiff, Nat.reduceLeDiff, List.range_zero, List.drop_zero, List.nil_append, reduceIte]
  generalize v.exact a.a = s at em oa
  generalize v.exact b.a = u at em obb
  cases h1 : s.is with
  | false =>
    simp only [go_sem, Nat.reduceAdd, Nat.reduceMul, Nat.reduceEqDiff, Nat.reduceLeDiff, List.range_zero, List.drop_zero, List.nil_append, reduceIte]
    exact fin _ _ (by rw [em, h1]; rfl)
  | true =>
  cases h2 : u.is with
  | false =>
    simp only [go_sem, Nat.reduceAdd, Nat.reduceMul, Nat.reduceEqDiff, Nat.reduceLeDiff, List.range_zero, List.drop_zero, List.nil_append, reduceIte]
    exact fin _ _ (by rw [em, h1, h2]; rfl)
  | true =>
  rw [h1, h2] at em
  simp only [Bool.not_true, Bool.false_or] at em
  simp only [go_sem, Nat.reduceAdd, Nat.reduceMul, Nat.reduceEqDiff, Nat.reduceLeDiff, List.range_zero, List.drop_zero, List.nil_append, reduceIte]
  refine aw_drawn st20_7 mixed (by kernel_rfl) ?_
  have w1 : IntKind.i64.wrap (s.off + a.off) = s.off + a.off := wrap_i64 (by omega) (by omega)
  have w2 : IntKind.i64.wrap (u.off + b.off) = u.off + b.off := wrap_i64 (by omega) (by omega)
  have w3 : IntKind.i64.wrap (u.off + b.off + b.size) = u.off + b.off + b.size := wrap_i64 (by omega) (by omega)
  have w4 : IntKind.i64.wrap (s.off + a.off + a.size) = s.off + a.off + a.size := wrap_i64 (by omega) (by omega)
  simp only [w1, w2, w3, w4, go_sem, Nat.reduceAdd, Nat.reduceMul, Nat.reduceEqDiff, Nat.reduceLeDiff, List.range_zero, List.drop_zero, List.nil_append, reduceIte]
  refine AIf_intro (fun h3 => ?_) (fun h3 => ?_) <;> simp only [h3, w1, w2, w3, w4, go_sem, Nat.reduceAdd, Nat.reduceMul, Nat.reduceEqDiff, Nat.reduceLeDiff, List.range_zero, List.drop_zero, List.nil_append, reduceIte]
  · exact fin _ _ (by rw [em, h3]; simp)
  · exact fin _ _ (by rw [em, h3]; simp)
end Go.Am

set_option maxRecDepth 100000
set_option maxHeartbeats 1000000
set_option linter.unusedSimpArgs false
set_option linter.unusedVariables false
namespace Go.Am
open Go Go.Proofs
/-! ### where a register is exactly: the view's answer is the document's -/
theorem Spot.ext' {a b : Spot} (h1 : a.thing = b.thing) (h2 : a.off = b.off) (h3 : a.sets = b.sets) (h4 : a.is = b.is) : a = b := by cases a; cases b; simp_all
def insEvs (l : List AEv) : List MIns := l.filterMap fun e => match e with | .ins i => some i | .ret _ => Option.none
theorem insEvs_blk (b : MBlk) : insEvs (blkEv b) = b.ins := by
  have h1 : ∀ l : List MIns, insEvs (l.map .ins) = l := fun l => by
    induction l with
    | nil => rfl
    | cons i l ih => simp only [insEvs, List.map_cons, List.filterMap_cons] at ih ⊢; rw [ih]
  have h2 : insEvs (retEv b) = [] := by unfold retEv; split <;> rfl
  unfold blkEv
  have h3 : ∀ a c : List AEv, insEvs (a ++ c) = insEvs a ++ insEvs c := fun a c => by simp only [insEvs, List.filterMap_append]
  rw [h3, h1, h2, List.append_nil]
theorem insEvs_evs (l : List MBlk) : insEvs (evsOf l) = l.flatMap fun b => b.ins := by
  induction l with
  | nil => rfl
  | cons b l ih =>
    have e : evsOf (b :: l) = blkEv b ++ evsOf l := rfl
    have h3 : ∀ a c : List AEv, insEvs (a ++ c) = insEvs a ++ insEvs c := fun a c => by simp only [insEvs, List.filterMap_append]
    rw [e, h3, ih, insEvs_blk, List.flatMap_cons]
theorem foldEv (p : MProc) (l : List AEv) : ∀ sp, l.foldl (spEv p) sp = (insEvs l).foldl (spStep p) sp := by
  induction l with
  | nil => intro sp; rfl
  | cons e l ih =>
    intro sp
    cases e with
    | ins i => rw [List.foldl_cons, ih]; rfl
    | ret a => rw [List.foldl_cons, ih]; rfl
theorem spStep_len {p sp i} : (spStep p sp i).length = sp.length := by
  unfold spStep; split
  · rfl
  · rw [List.length_set]
theorem foldSp_len (p : MProc) (l : List MIns) : ∀ sp, (l.foldl (spStep p) sp).length = sp.length := by
  induction l with
  | nil => intro sp; rfl
  | cons i l ih => intro sp; rw [List.foldl_cons, ih, spStep_len]
/-- one register's spot, followed alone -/
theorem foldSp_get (p : MProc) (l : List MIns) (hl : ∀ i ∈ l, i.dreg = -1 ∨ 0 ≤ i.dreg) (r : Nat) : ∀ sp, r < sp.length → (l.foldl (spStep p) sp).getD r .none = ((l.filter fun i => decide (i.dreg = (r : Int))).foldl (spotStep p) (sp.getD r .none)) := by
  induction l with
  | nil => intro sp _; rfl
  | cons i l ih =>
    intro sp hr
    rw [List.foldl_cons, ih (fun i hi => hl i (by simp [hi])) _ (by rw [spStep_len]; exact hr)]
    have hi := hl i (by simp)
    by_cases h : i.dreg = (r : Int)
    · rw [List.filter_cons_of_pos (by simp [h]), List.foldl_cons, spStep, if_neg (by omega), h]
      rw [Int.toNat_natCast, getD_setS hr]
    · rw [List.filter_cons_of_neg (by simp [h]), spStep]
      split
      · rfl
      · have : i.dreg.toNat ≠ r := by omega
        congr 1
        simp [List.getD, List.getElem?_set, this]
theorem spotStep_sets {p s i} : (spotStep p s i).sets = s.sets + 1 := by unfold spotStep; split <;> rfl
theorem foldSpot_sets (p : MProc) (l : List MIns) : ∀ s, (l.foldl (spotStep p) s).sets = s.sets + l.length := by
  induction l with
  | nil => intro s; simp
  | cons i l ih => intro s; rw [List.foldl_cons, ih, spotStep_sets, List.length_cons]; omega
theorem VDone.exact {m : MMod} {p : MProc} {k : Nat} {v : AView} (h : VDone m p k v) (pb : ProcB p m) (hk : p.regs = k) (r : Int) : v.exact r = exactR p r := by
  have hvl : v.st.regs.length = k := h.wf.regs
  unfold AView.exact AView.reg
  rw [hvl]
  by_cases hr : 0 ≤ r ∧ r < k
  · obtain ⟨n, rfl⟩ : ∃ n : Nat, r = n := ⟨r.toNat, by omega⟩
    have hn : n < k := by omega
    have hm : ∀ i ∈ (p.blocks.flatMap fun b => b.ins), i.dreg = -1 ∨ 0 ≤ i.dreg := by
      intro i hi
      obtain ⟨b, hb, hi⟩ := List.mem_flatMap.1 hi
      rcases dreg_of (pb.ins b hb i hi) with e | e
      · exact .inl e
      · exact .inr e.1
    have hsp : v.sp.getD n .none = (((p.blocks.flatMap fun b => b.ins).filter fun i => decide (i.dreg = (n : Int))).foldl (spotStep p) (spotP p.params n)) := by
      rw [h.sp, foldEv, insEvs_evs, foldSp_get p _ hm n _ (by rw [spk_len]; exact hn)]
      congr 1
      rw [List.getD, spk_get, if_pos hn, if_pos hn]; rfl
    rw [Int.toNat_natCast, hsp]
    by_cases hpar : (n : Int) < p.params
    · have he : exactR p n = .none := by rw [exactR, if_pos (.inl hpar)]
      rw [he]
      have hsp0 : spotP p.params n = ⟨0, 0, 1, false⟩ := by rw [spotP, if_pos hpar]
      rw [hsp0]
      split
      · rename_i hc
        obtain ⟨-, c1, c2⟩ := hc
        rw [foldSpot_sets] at c1
        have hnil : ((p.blocks.flatMap fun b => b.ins).filter fun i => decide (i.dreg = (n : Int))) = [] := List.eq_nil_of_length_eq_zero (by simp only at c1; omega)
        rw [hnil] at c2
        cases c2
      · rfl
    · have hsp0 : spotP p.params n = .none := by rw [spotP, if_neg hpar]
      rw [hsp0]
      rw [exactR, if_neg (show ¬ ((n : Int) < p.params ∨ (n : Int) ≥ p.regs) by omega)]
      generalize ((p.blocks.flatMap fun b => b.ins).filter fun i => decide (i.dreg = (n : Int))) = l
      match l with
      | [] => rw [if_neg]; rintro ⟨-, c, -⟩; cases c
      | [i] =>
        have hf : [i].foldl (spotStep p) .none = spotStep p .none i := rfl
        by_cases h78 : i.op = 7 ∨ i.op = 8
        · have e : spotStep p .none i = ⟨thingOf p i, i.off, 1, true⟩ := by rw [spotStep, if_pos h78]; rfl
          simp only [hf, e]
          rw [if_pos h78, if_pos ⟨by simp; omega, trivial, trivial⟩]
        · simp only [hf]
          rw [if_neg h78, if_neg]
          rintro ⟨-, -, c⟩
          rw [spotStep, if_neg h78] at c
          cases c
      | i :: j :: l =>
        rw [if_neg]
        rintro ⟨-, c, -⟩
        rw [foldSpot_sets] at c
        simp [Spot.none] at c
        omega
  · have e : exactR p r = .none := by
      rw [exactR, if_pos]
      have := pb.params
      omega
    rw [e, if_neg]
    rintro ⟨c, -⟩
    simp at c
    omega
/-- the things that a row has, and those that a row of bools has -/
theorem rising_of {T : Nat} {ws : List W64} {b : List Bool} (hb : b.length = T) (h : ∀ t, t < T → has ws t = b.getD t false) : risingB (((List.range T).filter (has ws)).map fun t : Nat => (t : Int)) b = true := by
  rw [risingB, decide_eq_true_eq, hb]
  congr 1
  exact List.filter_congr fun t ht => h t (List.mem_range.1 ht)
theorem same_row {m p k v st} (hv : VDone m p k v) (hs : BDone m p k st) (r t : Nat) : has (v.st.regs.getD r []) t = (st.regs.getD r []).getD t false := by
  rw [Bool.eq_iff_iff, hv.R, hs.R]
theorem same_out {m p k v st} (hv : VDone m p k v) (hs : BDone m p k st) (t : Nat) : has v.st.out t = st.out.getD t false := by
  rw [Bool.eq_iff_iff, hv.O, hs.O]
def thingsI (T : Nat) (ws : List W64) : List Int := ((List.range T).filter (has ws)).map fun t : Nat => (t : Int)
theorem things_eq {T ws} : things T ws = (thingsI T ws).map I := by simp only [things, thingsI, List.map_map]; rfl
end Go.Am
