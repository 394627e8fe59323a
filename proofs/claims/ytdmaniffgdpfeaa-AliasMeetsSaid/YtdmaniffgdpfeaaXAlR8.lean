/- A part of the proof that AliasThings and AliasMeets return true for every module: texts on an abstract reading of the code (AlR6, AlR7, AlR8). -/
import Derived.Test.YtdmaniffgdpfeaaXAlR5
set_option linter.unusedVariables false
set_option linter.unusedSimpArgs false
set_option linter.unusedSectionVars false
set_option maxRecDepth 100000
set_option maxHeartbeats 1000000
set_option linter.unusedSimpArgs false
set_option linter.unusedVariables false
namespace Go.Am
open Go Go.Proofs
/-- which words an operation has -/
def fieldsOf (op : Int) : List Bool :=
  if op = 1 then [true, false, false, false, false, false, false, true, false, true] else
  if op = 2 then [true, true, false, false, false, false, false, false, false, true] else
  if op = 3 then [true, true, true, true, false, false, false, false, false, true] else
  if op = 4 then [true, true, false, true, false, false, false, false, false, true] else
  if op = 5 then [true, true, false, false, false, true, true, false, false, true] else
  if op = 6 then [false, true, true, false, false, true, true, false, false, true] else
  if op = 7 then [true, false, false, false, true, true, false, false, false, true] else
  if op = 8 then [true, false, false, false, true, true, false, false, false, true] else
  if op = 9 then [true, false, false, false, true, false, false, false, true, true] else
  if op = 10 then [false, true, false, false, false, false, false, false, false, false] else
  if op = 11 then [true, false, false, false, false, false, false, false, false, true] else
  if op = 12 then [false, false, false, false, false, false, false, false, false, false] else
  []
theorem run125_in (l : List Bool) (h g : Heap) (K : AV → Heap → Prop) (o : Nat) (hl : l.length = 10) (ho : (h ++ g)[o]? = some (some (AObj.arr 4 1 (l.map B)))) (hn : h.length ≤ o) (hK : K (boolIl l) h) : WRet h K (.sl o 1 0 10 (some 10)) (h ++ g) := by
  refine WRet.of .mk (.sl o 1 0 10 (some 10) 4 (l.map B) (l.map B) ho hn (by simp [hl]) (by simp [hl]) (fun y hy => by obtain ⟨b, -, rfl⟩ := List.mem_map.1 hy; exact ⟨rfl, rfl⟩) fun i x y hx hy => ?_) (by simp) hK
  rw [Nat.zero_add] at hx; rw [hx] at hy; cases hy
  obtain ⟨b, -, rfl⟩ := List.mem_map.1 (List.mem_of_getElem? hx)
  exact .pure _ (.val _)
theorem run125 (op : Int) (h : Heap) (K) (hK : K (boolIl (fieldsOf op)) h) : RunsK Try.prog 125 [I op] h K := by
  have hc : (op < 1 ∨ 12 < op) ∨ op = 1 ∨ op = 2 ∨ op = 3 ∨ op = 4 ∨ op = 5 ∨ op = 6 ∨ op = 7 ∨ op = 8 ∨ op = 9 ∨ op = 10 ∨ op = 11 ∨ op = 12 := by omega
  have r10 : List.range 10 = [0, 1, 2, 3, 4, 5, 6, 7, 8, 9] := by decide
  have r13 : List.range 13 = [0, 1, 2, 3, 4, 5, 6, 7, 8, 9, 10, 11, 12] := by decide
  rcases hc with hc | rfl | rfl | rfl | rfl | rfl | rfl | rfl | rfl | rfl | rfl | rfl | rfl
  · refine RunsK.intro Try.func125 rfl (by decide) (by simp only [Try.f125, go_sem]; decide) ?_ <;> simp only [Try.f125]
    have e : fieldsOf op = [] := by unfold fieldsOf; rw [if_neg (by omega)]; rw [if_neg (by omega)]; rw [if_neg (by omega)]; rw [if_neg (by omega)]; rw [if_neg (by omega)]; rw [if_neg (by omega)]; rw [if_neg (by omega)]; rw [if_neg (by omega)]; rw [if_neg (by omega)]; rw [if_neg (by omega)]; rw [if_neg (by omega)]; rw [if_neg (by omega)]
    rw [e] at hK
    simp only [r10, r13, go_sem, Nat.reduceAdd, Nat.reduceMul, Nat.reduceEqDiff, Nat.reduceLeDiff, List.range_zero, List.drop_zero, List.nil_append, reduceIte]
    refine AIf_intro (fun h1 => ?_) (fun h1 => ?_)
    · simp only [h1, go_sem, Nat.reduceAdd, Nat.reduceMul, Nat.reduceEqDiff, Nat.reduceLeDiff, List.range_zero, List.drop_zero, List.nil_append, reduceIte]
      exact WRet.of .mk (.nil 1) (by simp) hK
    · have h2 : decide (op > 12) = true := by simp at h1; simp; omega
      simp only [h1, h2, go_sem, Nat.reduceAdd, Nat.reduceMul, Nat.reduceEqDiff, Nat.reduceLeDiff, List.range_zero, List.drop_zero, List.nil_append, reduceIte]
      exact WRet.of .mk (.nil 1) (by simp) hK
  · refine RunsK.intro Try.func125 rfl (by decide) (by simp only [Try.f125, go_sem]; decide) ?_ <;> simp only [Try.f125]
    have hb : ABound (1 : Int) (13 : Nat) := ⟨by omega, by omega⟩
    simp only [r10, r13, hb, Int.reduceLT, Int.reduceGT, decide_true, decide_false, Int.reduceToNat, go_sem, Nat.reduceAdd, Nat.reduceMul, Nat.reduceEqDiff, Nat.reduceLeDiff, List.range_zero, List.drop_zero, List.nil_append, reduceIte]
    refine run125_in [true, false, false, false, false, false, false, true, false, true] h _ K _ rfl (by simp only [go_sem, Nat.reduceAdd, Nat.reduceMul, Nat.reduceEqDiff, Nat.reduceLeDiff, List.range_zero, List.drop_zero, List.nil_append, reduceIte]) (by omega) ?_
    exact hK
  · refine RunsK.intro Try.func125 rfl (by decide) (by simp only [Try.f125, go_sem]; decide) ?_ <;> simp only [Try.f125]
    have hb : ABound (2 : Int) (13 : Nat) := ⟨by omega, by omega⟩
    simp only [r10, r13, hb, Int.reduceLT, Int.reduceGT, decide_true, decide_false, Int.reduceToNat, go_sem, Nat.reduceAdd, Nat.reduceMul, Nat.reduceEqDiff, Nat.reduceLeDiff, List.range_zero, List.drop_zero, List.nil_append, reduceIte]
    refine run125_in [true, true, false, false, false, false, false, false, false, true] h _ K _ rfl (by simp only [go_sem, Nat.reduceAdd, Nat.reduceMul, Nat.reduceEqDiff, Nat.reduceLeDiff, List.range_zero, List.drop_zero, List.nil_append, reduceIte]) (by omega) ?_
    exact hK
  · refine RunsK.intro Try.func125 rfl (by decide) (by simp only [Try.f125, go_sem]; decide) ?_ <;> simp only [Try.f125]
    have hb : ABound (3 : Int) (13 : Nat) := ⟨by omega, by omega⟩
    simp only [r10, r13, hb, Int.reduceLT, Int.reduceGT, decide_true, decide_false, Int.reduceToNat, go_sem, Nat.reduceAdd, Nat.reduceMul, Nat.reduceEqDiff, Nat.reduceLeDiff, List.range_zero, List.drop_zero, List.nil_append, reduceIte]
    refine run125_in [true, true, true, true, false, false, false, false, false, true] h _ K _ rfl (by simp only [go_sem, Nat.reduceAdd, Nat.reduceMul, Nat.reduceEqDiff, Nat.reduceLeDiff, List.range_zero, List.drop_zero, List.nil_append, reduceIte]) (by omega) ?_
    exact hK
  · refine RunsK.intro Try.func125 rfl (by decide) (by simp only [Try.f125, go_sem]; decide) ?_ <;> simp only [Try.f125]
    have hb : ABound (4 : Int) (13 : Nat) := ⟨by omega, by omega⟩
    simp only [r10, r13, hb, Int.reduceLT, Int.reduceGT, decide_true, decide_false, Int.reduceToNat, go_sem, Nat.reduceAdd, Nat.reduceMul, Nat.reduceEqDiff, Nat.reduceLeDiff, List.range_zero, List.drop_zero, List.nil_append, reduceIte]
    refine run125_in [true, true, false, true, false, false, false, false, false, true] h _ K _ rfl (by simp only [go_sem, Nat.reduceAdd, Nat.reduceMul, Nat.reduceEqDiff, Nat.reduceLeDiff, List.range_zero, List.drop_zero, List.nil_append, reduceIte]) (by omega) ?_
    exact hK
  · refine RunsK.intro Try.func125 rfl (by decide) (by simp only [Try.f125, go_sem]; decide) ?_ <;> simp only [Try.f125]
    have hb : ABound (5 : Int) (13 : Nat) := ⟨by omega, by omega⟩
    simp only [r10, r13, hb, Int.reduceLT, Int.reduceGT, decide_true, decide_false, Int.reduceToNat, go_sem, Nat.reduceAdd, Nat.reduceMul, Nat.reduceEqDiff, Nat.reduceLeDiff, List.range_zero, List.drop_zero, List.nil_append, reduceIte]
    refine run125_in [true, true, false, false, false, true, true, false, false, true] h _ K _ rfl (by simp only [go_sem, Nat.reduceAdd, Nat.reduceMul, Nat.reduceEqDiff, Nat.reduceLeDiff, List.range_zero, List.drop_zero, List.nil_append, reduceIte]) (by omega) ?_
    exact hK
  · refine RunsK.intro Try.func125 rfl (by decide) (by simp only [Try.f125, go_sem]; decide) ?_ <;> simp only [Try.f125]
    have hb : ABound (6 : Int) (13 : Nat) := ⟨by omega, by omega⟩
    simp only [r10, r13, hb, Int.reduceLT, Int.reduceGT, decide_true, decide_false, Int.reduceToNat, go_sem, Nat.reduceAdd, Nat.reduceMul, Nat.reduceEqDiff, Nat.reduceLeDiff, List.range_zero, List.drop_zero, List.nil_append, reduceIte]
    refine run125_in [false, true, true, false, false, true, true, false, false, true] h _ K _ rfl (by simp only [go_sem, Nat.reduceAdd, Nat.reduceMul, Nat.reduceEqDiff, Nat.reduceLeDiff, List.range_zero, List.drop_zero, List.nil_append, reduceIte]) (by omega) ?_
    exact hK
  · refine RunsK.intro Try.func125 rfl (by decide) (by simp only [Try.f125, go_sem]; decide) ?_ <;> simp only [Try.f125]
    have hb : ABound (7 : Int) (13 : Nat) := ⟨by omega, by omega⟩
    simp only [r10, r13, hb, Int.reduceLT, Int.reduceGT, decide_true, decide_false, Int.reduceToNat, go_sem, Nat.reduceAdd, Nat.reduceMul, Nat.reduceEqDiff, Nat.reduceLeDiff, List.range_zero, List.drop_zero, List.nil_append, reduceIte]
    refine run125_in [true, false, false, false, true, true, false, false, false, true] h _ K _ rfl (by simp only [go_sem, Nat.reduceAdd, Nat.reduceMul, Nat.reduceEqDiff, Nat.reduceLeDiff, List.range_zero, List.drop_zero, List.nil_append, reduceIte]) (by omega) ?_
    exact hK
  · refine RunsK.intro Try.func125 rfl (by decide) (by simp only [Try.f125, go_sem]; decide) ?_ <;> simp only [Try.f125]
    have hb : ABound (8 : Int) (13 : Nat) := ⟨by omega, by omega⟩
    simp only [r10, r13, hb, Int.reduceLT, Int.reduceGT, decide_true, decide_false, Int.reduceToNat, go_sem, Nat.reduceAdd, Nat.reduceMul, Nat.reduceEqDiff, Nat.reduceLeDiff, List.range_zero, List.drop_zero, List.nil_append, reduceIte]
    refine run125_in [true, false, false, false, true, true, false, false, false, true] h _ K _ rfl (by simp only [go_sem, Nat.reduceAdd, Nat.reduceMul, Nat.reduceEqDiff, Nat.reduceLeDiff, List.range_zero, List.drop_zero, List.nil_append, reduceIte]) (by omega) ?_
    exact hK
  · refine RunsK.intro Try.func125 rfl (by decide) (by simp only [Try.f125, go_sem]; decide) ?_ <;> simp only [Try.f125]
    have hb : ABound (9 : Int) (13 : Nat) := ⟨by omega, by omega⟩
    simp only [r10, r13, hb, Int.reduceLT, Int.reduceGT, decide_true, decide_false, Int.reduceToNat, go_sem, Nat.reduceAdd, Nat.reduceMul, Nat.reduceEqDiff, Nat.reduceLeDiff, List.range_zero, List.drop_zero, List.nil_append, reduceIte]
    refine run125_in [true, false, false, false, true, false, false, false, true, true] h _ K _ rfl (by simp only [go_sem, Nat.reduceAdd, Nat.reduceMul, Nat.reduceEqDiff, Nat.reduceLeDiff, List.range_zero, List.drop_zero, List.nil_append, reduceIte]) (by omega) ?_
    exact hK
  · refine RunsK.intro Try.func125 rfl (by decide) (by simp only [Try.f125, go_sem]; decide) ?_ <;> simp only [Try.f125]
    have hb : ABound (10 : Int) (13 : Nat) := ⟨by omega, by omega⟩
    simp only [r10, r13, hb, Int.reduceLT, Int.reduceGT, decide_true, decide_false, Int.reduceToNat, go_sem, Nat.reduceAdd, Nat.reduceMul, Nat.reduceEqDiff, Nat.reduceLeDiff, List.range_zero, List.drop_zero, List.nil_append, reduceIte]
    refine run125_in [false, true, false, false, false, false, false, false, false, false] h _ K _ rfl (by simp only [go_sem, Nat.reduceAdd, Nat.reduceMul, Nat.reduceEqDiff, Nat.reduceLeDiff, List.range_zero, List.drop_zero, List.nil_append, reduceIte]) (by omega) ?_
    exact hK
  · refine RunsK.intro Try.func125 rfl (by decide) (by simp only [Try.f125, go_sem]; decide) ?_ <;> simp only [Try.f125]
    have hb : ABound (11 : Int) (13 : Nat) := ⟨by omega, by omega⟩
    simp only [r10, r13, hb, Int.reduceLT, Int.reduceGT, decide_true, decide_false, Int.reduceToNat, go_sem, Nat.reduceAdd, Nat.reduceMul, Nat.reduceEqDiff, Nat.reduceLeDiff, List.range_zero, List.drop_zero, List.nil_append, reduceIte]
    refine run125_in [true, false, false, false, false, false, false, false, false, true] h _ K _ rfl (by simp only [go_sem, Nat.reduceAdd, Nat.reduceMul, Nat.reduceEqDiff, Nat.reduceLeDiff, List.range_zero, List.drop_zero, List.nil_append, reduceIte]) (by omega) ?_
    exact hK
  · refine RunsK.intro Try.func125 rfl (by decide) (by simp only [Try.f125, go_sem]; decide) ?_ <;> simp only [Try.f125]
    have hb : ABound (12 : Int) (13 : Nat) := ⟨by omega, by omega⟩
    simp only [r10, r13, hb, Int.reduceLT, Int.reduceGT, decide_true, decide_false, Int.reduceToNat, go_sem, Nat.reduceAdd, Nat.reduceMul, Nat.reduceEqDiff, Nat.reduceLeDiff, List.range_zero, List.drop_zero, List.nil_append, reduceIte]
    refine run125_in [false, false, false, false, false, false, false, false, false, false] h _ K _ rfl (by simp only [go_sem, Nat.reduceAdd, Nat.reduceMul, Nat.reduceEqDiff, Nat.reduceLeDiff, List.range_zero, List.drop_zero, List.nil_append, reduceIte]) (by omega) ?_
    exact hK
theorem aindex_boolIl0 {h : Heap} {K : AV → Heap → Prop} {l : List Bool} {k : IntKind} : aindex Try.prog 45 h K (boolIl l) (.val (.int k 0)) = (0 < l.length ∧ K (.iptr (B (l.getD 0 false))) h) := aindex_boolIl (n := 0)
attribute [go_sem] aindex_boolIl0
theorem fields_spec (op : Int) : ((fieldsOf op).length = 10 ∨ (fieldsOf op).length = 0) ∧ ((fieldsOf op).length = 0 → ¬ (op = 1 ∨ op = 2 ∨ op = 3 ∨ op = 4 ∨ op = 5 ∨ op = 7 ∨ op = 8 ∨ op = 9 ∨ op = 11)) ∧
    ((fieldsOf op).length = 10 → ((fieldsOf op).getD 0 false = true ↔ (op = 1 ∨ op = 2 ∨ op = 3 ∨ op = 4 ∨ op = 5 ∨ op = 7 ∨ op = 8 ∨ op = 9 ∨ op = 11))) := by
  have hc : (op < 1 ∨ 12 < op) ∨ op = 1 ∨ op = 2 ∨ op = 3 ∨ op = 4 ∨ op = 5 ∨ op = 6 ∨ op = 7 ∨ op = 8 ∨ op = 9 ∨ op = 10 ∨ op = 11 ∨ op = 12 := by omega
  rcases hc with hc | rfl | rfl | rfl | rfl | rfl | rfl | rfl | rfl | rfl | rfl | rfl | rfl
  · have e : fieldsOf op = [] := by
      unfold fieldsOf
      repeat rw [if_neg (by omega)]
    rw [e]
    exact ⟨.inr rfl, fun _ => by omega, fun h => by simp at h⟩
  all_goals (refine ⟨.inl rfl, fun h => absurd h (by decide), fun _ => ?_⟩; decide)
theorem run75 (i : MIns) (h : Heap) (K) (hK : K (I i.dreg) h) : RunsK Try.prog 75 [i.enc] h K := by
  refine RunsK.intro Try.func75 rfl (by decide) (by simp only [Try.f75, go_sem]; decide) ?_ <;> simp only [Try.f75]
  simp only [go_sem, Nat.reduceAdd, Nat.reduceMul, Nat.reduceEqDiff, Nat.reduceLeDiff, List.range_zero, List.drop_zero, List.nil_append, reduceIte]
  refine run125 _ _ _ ?_
  obtain ⟨h1, h2, h3⟩ := fields_spec i.op
  rcases h1 with h1 | h1
  · have d0 : decide (((fieldsOf i.op).length : Int) = 0) = false := by simp [h1]
    have l0 : 0 < (fieldsOf i.op).length := by omega
    simp only [d0, l0, go_sem, Nat.reduceAdd, Nat.reduceMul, Nat.reduceEqDiff, Nat.reduceLeDiff, List.range_zero, List.drop_zero, List.nil_append, reduceIte]
    cases hf : (fieldsOf i.op).getD 0 false with
    | true =>
      simp only [go_sem, Nat.reduceAdd, Nat.reduceMul, Nat.reduceEqDiff, Nat.reduceLeDiff, List.range_zero, List.drop_zero, List.nil_append, reduceIte]
      have e : i.dreg = i.d := by rw [MIns.dreg, if_pos ((h3 h1).1 hf)]
      rw [e] at hK
      exact WRet.val .mk hK
    | false =>
      simp only [go_sem, Nat.reduceAdd, Nat.reduceMul, Nat.reduceEqDiff, Nat.reduceLeDiff, List.range_zero, List.drop_zero, List.nil_append, reduceIte]
      have e : i.dreg = -1 := by rw [MIns.dreg, if_neg (fun x => by rw [(h3 h1).2 x] at hf; cases hf)]
      rw [e] at hK
      exact WRet.val .mk hK
  · have d0 : decide (((fieldsOf i.op).length : Int) = 0) = true := by simp [h1]
    simp only [d0, go_sem, Nat.reduceAdd, Nat.reduceMul, Nat.reduceEqDiff, Nat.reduceLeDiff, List.range_zero, List.drop_zero, List.nil_append, reduceIte]
    have e : i.dreg = -1 := by rw [MIns.dreg, if_neg (h2 h1)]
    rw [e] at hK
    exact WRet.val .mk hK
end Go.Am

set_option maxRecDepth 100000
set_option maxHeartbeats 1000000
set_option linter.unusedSimpArgs false
set_option linter.unusedVariables false
namespace Go.Am
open Go Go.Proofs
def risingB (l : List Int) (b : List Bool) : Bool := decide (l = ((List.range b.length).filter fun t => b.getD t false).map fun t : Nat => (t : Int))
theorem rising_take {b : List Bool} {k : Nat} : ((List.range (k + 1)).filter fun t => b.getD t false) = ((List.range k).filter fun t => b.getD t false) ++ (if b.getD k false then [k] else []) := by
  rw [List.range_succ, List.filter_append]
  rw [List.filter_cons, List.filter_nil]
theorem run25 (l : List Int) (b : List Bool) (hl : l.length < 9223372036854775808) (hb : b.length < 9223372036854775808) (h : Heap) (K) (hK : K (B (risingB l b)) h) : RunsK Try.prog 25 [.il 1 (l.map I), boolIl b] h K := by
  refine RunsK.intro Try.func25 rfl (by decide) (by simp only [Try.f25, go_sem]; decide) ?_ <;> simp only [Try.f25]
  simp only [go_sem, Nat.reduceAdd, Nat.reduceMul, Nat.reduceEqDiff, Nat.reduceLeDiff, List.range_zero, List.drop_zero, List.nil_append, reduceIte]
  have bad : ∀ k : Nat, k ≤ b.length → (∀ n, l.take n ≠ ((List.range k).filter fun t => b.getD t false).map fun t : Nat => (t : Int)) → risingB l b = false := by
    intro k hk hne
    rw [risingB, decide_eq_false_iff_not]
    intro e
    refine hne ((List.range k).filter fun t => b.getD t false).length ?_
    obtain ⟨d, hd⟩ : ∃ d, b.length = k + d := ⟨b.length - k, by omega⟩
    rw [e, hd]
    have : ∀ d, ∃ r, ((List.range (k + d)).filter fun t => b.getD t false) = ((List.range k).filter fun t => b.getD t false) ++ r := by
      intro d
      induction d with
      | zero => exact ⟨[], by simp⟩
      | succ d ih =>
        obtain ⟨r, hr⟩ := ih
        rw [← Nat.add_assoc, rising_take, hr]
        exact ⟨r ++ _, by rw [List.append_assoc]⟩
    obtain ⟨r, hr⟩ := this d
    rw [hr, List.map_append, List.take_left' (by simp)]
  refine aLoop_nat [0, 1, 5, 6] b.length (fun k vs hh => h = hh ∧ ∃ n, n ≤ l.length ∧ l.take n = (((List.range k).filter fun t => b.getD t false).map fun t : Nat => (t : Int)) ∧ vs = [.il 1 (l.map I), boolIl b, I (n : Nat), I k]) ?_ ?_
  · simp only [go_sem, Nat.reduceAdd, Nat.reduceMul, Nat.reduceEqDiff, Nat.reduceLeDiff, List.range_zero, List.drop_zero, List.nil_append, reduceIte]
    exact ⟨0, by omega, by simp, rfl⟩
  · rintro k vs hh hk - ⟨rfl, n, hn, ht, rfl⟩ I' μ m hnx
    have hnl : n = (((List.range k).filter fun t => b.getD t false).map fun t : Nat => (t : Int)).length := by
      rw [← ht, List.length_take]; omega
    simp only [ltI, go_sem, Nat.reduceAdd, Nat.reduceMul, Nat.reduceEqDiff, Nat.reduceLeDiff, List.range_zero, List.drop_zero, List.nil_append, reduceIte]
    refine AIf_intro (fun hlt => ?_) (fun hge => ?_)
    · simp only [decide_eq_true_eq] at hlt
      simp only [hlt, go_sem, Nat.reduceAdd, Nat.reduceMul, Nat.reduceEqDiff, Nat.reduceLeDiff, List.range_zero, List.drop_zero, List.nil_append, reduceIte]
      cases hbk : b.getD k false with
      | false =>
        simp only [inc64 hlt hb, go_sem, Nat.reduceAdd, Nat.reduceMul, Nat.reduceEqDiff, Nat.reduceLeDiff, List.range_zero, List.drop_zero, List.nil_append, reduceIte]
        refine hnx _ _ hlt ⟨rfl, n, hn, ?_, rfl⟩
        rw [rising_take, hbk]; simpa using ht
      | true =>
        simp only [go_sem, Nat.reduceAdd, Nat.reduceMul, Nat.reduceEqDiff, Nat.reduceLeDiff, List.range_zero, List.drop_zero, List.nil_append, reduceIte]
        refine AIf_intro (fun hge2 => ?_) (fun hlt2 => ?_)
        · have hge2' : l.length ≤ n := by simpa using hge2
          simp only [hge2, go_sem, Nat.reduceAdd, Nat.reduceMul, Nat.reduceEqDiff, Nat.reduceLeDiff, List.range_zero, List.drop_zero, List.nil_append, reduceIte]
          refine WRet.bool .refl hK ?_
          symm
          refine bad (k + 1) (by omega) fun n2 e => ?_
          have := congrArg List.length e
          rw [rising_take, hbk] at this
          simp at this
          simp at hnl
          omega
        · have hlt2' : n < l.length := by simpa using hlt2
          have hgd := getD_map I l hlt2'
          simp only [hlt2, bnd hlt2', hgd, toNatC, go_sem, Nat.reduceAdd, Nat.reduceMul, Nat.reduceEqDiff, Nat.reduceLeDiff, List.range_zero, List.drop_zero, List.nil_append, reduceIte]
          refine AIf_intro (fun he => ?_) (fun he => ?_)
          · have he' : l[n] = (k : Int) := by simpa using he
            simp only [he, inc64 hlt hb, inc64 hlt2' hl, go_sem, Nat.reduceAdd, Nat.reduceMul, Nat.reduceEqDiff, Nat.reduceLeDiff, List.range_zero, List.drop_zero, List.nil_append, reduceIte]
            refine hnx _ _ hlt ⟨rfl, n + 1, by omega, ?_, rfl⟩
            rw [rising_take, hbk, List.take_succ_eq_append_getElem hlt2', ht, he']; simp
          · have he' : ¬ l[n] = (k : Int) := by simpa using he
            simp only [he, go_sem, Nat.reduceAdd, Nat.reduceMul, Nat.reduceEqDiff, Nat.reduceLeDiff, List.range_zero, List.drop_zero, List.nil_append, reduceIte]
            refine WRet.bool .refl hK ?_
            symm
            refine bad (k + 1) (by omega) fun n2 e => he' ?_
            rw [rising_take, hbk] at e
            have h2 := congrArg (fun q => q[n]?) e
            simp only [List.map_append] at h2
            rw [List.getElem?_append_right (by omega)] at h2
            rw [List.getElem?_take] at h2
            rw [← hnl] at h2
            simp [hlt2'] at h2
            exact h2.2
    · simp only [decide_eq_false_iff_not] at hge
      have hkb : k = b.length := by omega
      subst hkb
      simp only [go_sem, Nat.reduceAdd, Nat.reduceMul, Nat.reduceEqDiff, Nat.reduceLeDiff, List.range_zero, List.drop_zero, List.nil_append, reduceIte]
      refine WRet.bool .refl hK ?_
      rw [risingB, Bool.eq_iff_iff, decide_eq_true_eq, decide_eq_true_eq, ← ht]
      constructor
      · intro e
        have : n = l.length := by omega
        rw [this, List.take_length]
      · intro e
        have := congrArg List.length e
        rw [List.length_take] at this
        omega
/-- where a register is exactly, of the document -/
def exactR (p : MProc) (r : Int) : Spot := if r < p.params ∨ r ≥ p.regs then .none else
  match (p.blocks.flatMap fun b => b.ins).filter (fun i => decide (i.dreg = r)) with
  | [i] => if i.op = 7 ∨ i.op = 8 then ⟨thingOf p i, i.off, 1, true⟩ else .none
  | _ => .none
/-- the running: how many, and the last place told -/
structure XSt where
  n : Nat
  t : Int
  o : Int
  is : Bool
def xStep (p : MProc) (r : Int) (s : XSt) (i : MIns) : XSt :=
  if i.dreg = r then (if i.op = 7 ∨ i.op = 8 then ⟨s.n + 1, thingOf p i, i.off, true⟩ else ⟨s.n + 1, s.t, s.o, s.is⟩) else s
def xRun (p : MProc) (r : Int) (l : List MIns) : XSt := l.foldl (xStep p r) ⟨0, 0, 0, false⟩
theorem xRun_filter (p : MProc) (r : Int) (l : List MIns) : ∀ s, l.foldl (xStep p r) s = (l.filter fun i => decide (i.dreg = r)).foldl (xStep p r) s := by
  induction l with
  | nil => intro s; rfl
  | cons i l ih =>
    intro s
    by_cases h : i.dreg = r
    · rw [List.filter_cons_of_pos (by simp [h]), List.foldl_cons, List.foldl_cons, ih]
    · rw [List.filter_cons_of_neg (by simp [h]), List.foldl_cons, ← ih, xStep, if_neg h]
theorem xRun_n (p : MProc) (r : Int) (l : List MIns) (hl : ∀ i ∈ l, i.dreg = r) : ∀ s, (l.foldl (xStep p r) s).n = s.n + l.length := by
  induction l with
  | nil => intro s; rfl
  | cons i l ih =>
    intro s
    rw [List.foldl_cons, ih (fun i hi => hl i (by simp [hi])), xStep, if_pos (hl i (by simp)), List.length_cons]
    split <;> (simp only; omega)
theorem exactR_eq (p : MProc) (r : Int) (hr : ¬ (r < p.params ∨ r ≥ p.regs)) : exactR p r = if (xRun p r (p.blocks.flatMap fun b => b.ins)).n = 1 ∧ (xRun p r (p.blocks.flatMap fun b => b.ins)).is = true then ⟨(xRun p r (p.blocks.flatMap fun b => b.ins)).t, (xRun p r (p.blocks.flatMap fun b => b.ins)).o, 1, true⟩ else .none := by
  rw [exactR, if_neg hr, xRun, xRun_filter]
  have hm : ∀ i ∈ (p.blocks.flatMap fun b => b.ins).filter (fun i => decide (i.dreg = r)), i.dreg = r := fun i hi => by simpa using (List.mem_filter.1 hi).2
  generalize (p.blocks.flatMap fun b => b.ins).filter (fun i => decide (i.dreg = r)) = l at hm
  match l with
  | [] => simp
  | [i] =>
    simp only [List.foldl_cons, List.foldl_nil, xStep, if_pos (hm i (by simp))]
    split <;> simp
  | i :: j :: l =>
    have := xRun_n p r (i :: j :: l) hm ⟨0, 0, 0, false⟩
    rw [if_neg]
    rintro ⟨h, -⟩
    rw [h] at this
    simp at this
/-- of one that is less than exact nothing is told -/
theorem exactR_n (p : MProc) (r : Int) (h : (xRun p r (p.blocks.flatMap fun b => b.ins)).n = 1) (h2 : (xRun p r (p.blocks.flatMap fun b => b.ins)).is = false) :
    (xRun p r (p.blocks.flatMap fun b => b.ins)).t = 0 ∧ (xRun p r (p.blocks.flatMap fun b => b.ins)).o = 0 := by
  rw [xRun, xRun_filter] at *
  have hm : ∀ i ∈ (p.blocks.flatMap fun b => b.ins).filter (fun i => decide (i.dreg = r)), i.dreg = r := fun i hi => by simpa using (List.mem_filter.1 hi).2
  generalize (p.blocks.flatMap fun b => b.ins).filter (fun i => decide (i.dreg = r)) = l at hm h h2
  match l with
  | [] => simp at h
  | [i] =>
    simp only [List.foldl_cons, List.foldl_nil, xStep, if_pos (hm i (by simp))] at h2 ⊢
    split at h2
    · simp at h2
    · rename_i hn; rw [if_neg hn]; exact ⟨rfl, rfl⟩
  | i :: j :: l =>
    have := xRun_n p r (i :: j :: l) hm ⟨0, 0, 0, false⟩
    rw [h] at this
    simp at this
end Go.Am

set_option maxRecDepth 100000
set_option maxHeartbeats 1000000
set_option linter.unusedSimpArgs false
set_option linter.unusedVariables false
namespace Go.Am
open Go Go.Proofs
def Spot.enc3 (s : Spot) : AV := .agg [I s.thing, I s.off, B s.is]
theorem xRun_le (p : MProc) (r : Int) (l : List MIns) : ∀ s, (l.foldl (xStep p r) s).n ≤ s.n + l.length := by
  induction l with
  | nil => intro s; exact Nat.le_refl _
  | cons i l ih =>
    intro s
    have := ih (xStep p r s i)
    rw [List.foldl_cons, List.length_cons]
    have h2 : (xStep p r s i).n ≤ s.n + 1 := by
      unfold xStep; split
      · split <;> exact Nat.le_refl _
      · omega
    omega
theorem flat_len (l : List MBlk) : (l.flatMap fun b => b.ins).length = insOf l := by
  induction l with
  | nil => rfl
  | cons b l ih => rw [List.flatMap_cons, List.length_append, ih, insOf_cons]
abbrev sObj (t o : Int) (is : Bool) : AObj := .arr 57 3 [.agg [I t, I o, B is]]
theorem run24 (m : MMod) (p : MProc) (pb : ProcB p m) (pl : p.Lens) (hg : m.globals.length ≤ 200) (r : Int) (h : Heap) (K) (hK : K (exactR p r).enc3 h) : RunsK Try.prog 24 [p.enc, I r] h K := by
  refine RunsK.intro Try.func24 rfl (by decide) (by simp only [Try.f24, go_sem]; decide) ?_ <;> simp only [Try.f24]
  have hlb := pl.blocks
  unfold Len at hlb
  have hob := pb.objects
  have hall := pb.all
  simp only [go_sem, Nat.reduceAdd, Nat.reduceMul, Nat.reduceEqDiff, Nat.reduceLeDiff, List.range_zero, List.drop_zero, List.nil_append, reduceIte]
  by_cases hr : r < p.params ∨ r ≥ p.regs
  · have e : exactR p r = .none := by rw [exactR, if_pos hr]
    rw [e] at hK
    by_cases h1 : r < p.params
    · have d1 : decide (r < p.params) = true := by simp [h1]
      simp only [d1, go_sem, Nat.reduceAdd, Nat.reduceMul, Nat.reduceEqDiff, Nat.reduceLeDiff, List.range_zero, List.drop_zero, List.nil_append, reduceIte]
      exact WRet.of .mk (Frz.aggL (.cons .v (.cons .v (.cons .v .nil)))) (by simp) hK
    · have d1 : decide (r < p.params) = false := by simp; omega
      have d2 : decide (r ≥ p.regs) = true := by simp; omega
      simp only [d1, d2, go_sem, Nat.reduceAdd, Nat.reduceMul, Nat.reduceEqDiff, Nat.reduceLeDiff, List.range_zero, List.drop_zero, List.nil_append, reduceIte]
      exact WRet.of .mk (Frz.aggL (.cons .v (.cons .v (.cons .v .nil)))) (by simp) hK
  · have d1 : decide (r < p.params) = false := by simp; omega
    have d2 : decide (r ≥ p.regs) = false := by simp; omega
    have hex := exactR_eq p r hr
    have hexn := exactR_n p r
    simp only [d1, d2, go_sem, Nat.reduceAdd, Nat.reduceMul, Nat.reduceEqDiff, Nat.reduceLeDiff, List.range_zero, List.drop_zero, List.nil_append, reduceIte]
    obtain ⟨h2, hh2⟩ : ∃ h2, h2 = h ++ [some (AObj.arr 32 6 [p.enc]), some (AObj.arr 57 3 [.agg [.val (.int .i64 0), .val (.int .i64 0), .val (.bool false)]])] := ⟨_, rfl⟩
    have h2l : h2.length = h.length + 2 := by rw [hh2]; simp
    have hb2 : HB h h2 := by rw [hh2]; exact HB.refl.app
    have hp2 : h2[h.length]? = some (some (AObj.arr 32 6 [p.enc])) := by rw [hh2]; simp only [go_sem, Nat.reduceAdd, Nat.reduceMul, Nat.reduceEqDiff, Nat.reduceLeDiff, List.range_zero, List.drop_zero, List.nil_append, reduceIte]
    have hz2 : h2[h.length + 1]? = some (some (AObj.arr 57 3 [.agg [.val (.int .i64 0), .val (.int .i64 0), .val (.bool false)]])) := by rw [hh2]; simp only [go_sem, Nat.reduceAdd, Nat.reduceMul, Nat.reduceEqDiff, Nat.reduceLeDiff, List.range_zero, List.drop_zero, List.nil_append, reduceIte]
    refine aLoop_nat [1, 2, 4, 5, 6, 7] p.blocks.length (fun k vs hh => ∃ s : XSt, s = xRun p r ((p.blocks.take k).flatMap fun b => b.ins) ∧ HB h2 hh ∧ hh[h.length + 2]? = some (some (sObj s.t s.o s.is)) ∧
      vs = [I r, .ptr h.length 6 0 0 [], .ptr (h.length + 1) 3 0 0 [], .ptr (h.length + 2) 3 0 0 [], I (s.n : Nat), I k]) ?_ ?_
    · simp only [go_sem, Nat.reduceAdd, Nat.reduceMul, Nat.reduceEqDiff, Nat.reduceLeDiff, List.range_zero, List.drop_zero, List.nil_append, reduceIte]
      refine ⟨_, rfl, ?_, ?_, rfl⟩
      · rw [hh2]; exact ⟨by simp, fun o ho => by
          rw [show h ++ [some (AObj.arr 32 6 [p.enc]), some (AObj.arr 57 3 [.agg [.val (.int .i64 0), .val (.int .i64 0), .val (.bool false)]]), some (AObj.arr 57 3 [.agg [.val (.int .i64 0), .val (.int .i64 0), .val (.bool false)]])] = (h ++ [some (AObj.arr 32 6 [p.enc]), some (AObj.arr 57 3 [.agg [.val (.int .i64 0), .val (.int .i64 0), .val (.bool false)]])]) ++ [some (AObj.arr 57 3 [.agg [.val (.int .i64 0), .val (.int .i64 0), .val (.bool false)]])] by simp, List.getElem?_append_left ho]⟩
      · rfl
    · rintro k vs hh hk - ⟨s, hs, hb, ho, rfl⟩ I' μ m' hnx
      have hp := (hb.2 _ (by omega : h.length < h2.length)).trans hp2
      have hz := (hb.2 _ (by omega : h.length + 1 < h2.length)).trans hz2
      simp only [hp, ltI, go_sem, Nat.reduceAdd, Nat.reduceMul, Nat.reduceEqDiff, Nat.reduceLeDiff, List.range_zero, List.drop_zero, List.nil_append, reduceIte]
      refine AIf_intro (fun hlt => ?_) (fun hge => ?_)
      · simp only [decide_eq_true_eq] at hlt
        have hgd := getD_map MBlk.enc p.blocks hlt
        have hbm := List.getElem_mem hlt
        have hfl : ((p.blocks.take (k + 1)).flatMap fun b => b.ins) = ((p.blocks.take k).flatMap fun b => b.ins) ++ p.blocks[k].ins := by
          rw [List.take_succ_eq_append_getElem hlt, List.flatMap_append]; simp
        have htot : ((p.blocks.take k).flatMap fun b => b.ins).length + p.blocks[k].ins.length ≤ 20000 := by
          rw [← List.length_append, ← hfl, flat_len]
          refine Nat.le_trans ?_ hall
          conv => rhs; rw [← List.take_append_drop (k + 1) p.blocks]
          rw [insOf, insOf, List.map_append, List.sum_append]; omega
        generalize p.blocks[k] = b at hgd hbm hfl htot
        have hil := (pl.each b hbm).ins
        unfold Len at hil
        simp only [go_sem, Nat.reduceAdd, Nat.reduceMul, Nat.reduceEqDiff, Nat.reduceLeDiff, List.range_zero, List.drop_zero, List.nil_append, reduceIte]
        refine aLoop_nat [1, 2, 4, 5, 6, 7, 8] b.ins.length (fun j vs hh => ∃ s : XSt, s = xRun p r (((p.blocks.take k).flatMap fun b => b.ins) ++ b.ins.take j) ∧ HB h2 hh ∧ hh[h.length + 2]? = some (some (sObj s.t s.o s.is)) ∧
          vs = [I r, .ptr h.length 6 0 0 [], .ptr (h.length + 1) 3 0 0 [], .ptr (h.length + 2) 3 0 0 [], I (s.n : Nat), I k, I j]) ?_ ?_
        · simp only [go_sem, Nat.reduceAdd, Nat.reduceMul, Nat.reduceEqDiff, Nat.reduceLeDiff, List.range_zero, List.drop_zero, List.nil_append, reduceIte]
          exact ⟨s, by simpa using hs, hb, ho, rfl⟩
        · rintro j vs h3 hj - ⟨s3, hs3, hb3, ho3, rfl⟩ I2 μ2 m2 hnx2
          have hp3 := (hb3.2 _ (by omega : h.length < h2.length)).trans hp2
          have hz3 := (hb3.2 _ (by omega : h.length + 1 < h2.length)).trans hz2
          simp only [hp3, ltI, bnd hlt, hgd, toNatC, go_sem, Nat.reduceAdd, Nat.reduceMul, Nat.reduceEqDiff, Nat.reduceLeDiff, List.range_zero, List.drop_zero, List.nil_append, reduceIte]
          refine AIf_intro (fun hlt2 => ?_) (fun hge2 => ?_)
          · simp only [decide_eq_true_eq] at hlt2
            have hgd2 := getD_map MIns.enc b.ins hlt2
            have him := List.getElem_mem hlt2
            have htk : ((p.blocks.take k).flatMap fun b => b.ins) ++ b.ins.take (j + 1) = (((p.blocks.take k).flatMap fun b => b.ins) ++ b.ins.take j) ++ [b.ins[j]] := by
              rw [List.take_succ_eq_append_getElem hlt2, List.append_assoc]
            have hst : xRun p r (((p.blocks.take k).flatMap fun b => b.ins) ++ b.ins.take (j + 1)) = xStep p r s3 b.ins[j] := by
              rw [htk, hs3, xRun, List.foldl_append]; rfl
            have hsn : s3.n ≤ 20000 := by
              rw [hs3]
              refine Nat.le_trans (xRun_le p r _ _) ?_
              rw [List.length_append, List.length_take]
              show 0 + (_ + min j b.ins.length) ≤ 20000
              omega
            generalize b.ins[j] = i at hgd2 him hst
            have hib := pb.ins b hbm i him
            have hl3 := lt_of ho3
            simp only [hp3, bnd hlt, hgd, bnd hlt2, hgd2, toNatC, go_sem, Nat.reduceAdd, Nat.reduceMul, Nat.reduceEqDiff, Nat.reduceLeDiff, List.range_zero, List.drop_zero, List.nil_append, reduceIte]
            refine run75 i _ _ ?_
            have hoA : ∀ g, (h3 ++ g)[h.length + 2]? = _ := fun g => getApp ho3
            have hpA : ∀ g, (h3 ++ g)[h.length]? = _ := fun g => getApp hp3
            have hbA : ∀ g, HB h2 (h3 ++ g) := fun g => hb3.app
            have next : ∀ h4 s4, s4 = xStep p r s3 i → HB h2 h4 → h4[h.length + 2]? = some (some (sObj s4.t s4.o s4.is)) → (I2 [I r, .ptr h.length 6 0 0 [], .ptr (h.length + 1) 3 0 0 [], .ptr (h.length + 2) 3 0 0 [], I (s4.n : Nat), I k, I (j + 1 : Nat)] h4 ∧ μ2 [I r, .ptr h.length 6 0 0 [], .ptr (h.length + 1) 3 0 0 [], .ptr (h.length + 2) 3 0 0 [], I (s4.n : Nat), I k, I (j + 1 : Nat)] h4 < m2) := by
              intro h4 s4 e1 e2 e3
              exact hnx2 _ _ hlt2 ⟨s4, by rw [hst]; exact e1, e2, e3, rfl⟩
            simp only [go_sem, Nat.reduceAdd, Nat.reduceMul, Nat.reduceEqDiff, Nat.reduceLeDiff, List.range_zero, List.drop_zero, List.nil_append, reduceIte]
            refine AIf_intro (fun hde => ?_) (fun hdn => ?_)
            · have hde' : i.dreg = r := by simpa using hde
              have hw : IntKind.i64.wrap ((s3.n : Int) + 1) = ((s3.n + 1 : Nat) : Int) := by rw [wrap_i64 (by omega) (by omega)]; omega
              by_cases h78 : i.op = 7 ∨ i.op = 8
              · have hxs : xStep p r s3 i = ⟨s3.n + 1, thingOf p i, i.off, true⟩ := by rw [xStep, if_pos hde', if_pos h78]
                have hA : ∀ g X, ((h3 ++ g).set (h.length + 2) X)[h.length + 2]? = some X := fun g X => getS_eq (by simp; omega)
                have hBt : ∀ g X, HB h2 ((h3 ++ g).set (h.length + 2) X) := fun g X => (hbA g).set (by omega)
                have hi8 : ∀ X, ((h3 ++ [some (AObj.arr 39 11 [i.enc])]).set (h.length + 2) X)[h3.length]? = some (some (AObj.arr 39 11 [i.enc])) := fun X => by rw [getS_ne (by omega)]; simp
                rcases h78 with e | e
                · have et : thingOf p i = i.obj := by rw [thingOf, if_neg (by omega)]
                  rw [et] at hxs
                  simp only [hw, e, decide_true, decide_false, Int.reduceEq, hoA, hi8, inc64 hlt2 hil, go_sem, Nat.reduceAdd, Nat.reduceMul, Nat.reduceEqDiff, Nat.reduceLeDiff, List.range_zero, List.drop_zero, List.nil_append, reduceIte]
                  exact next _ ⟨s3.n + 1, i.obj, i.off, true⟩ hxs.symm (hBt _ _) (hA _ _)
                · have hgb := hib.glob e
                  have et : thingOf p i = p.objects.length + i.obj := by rw [thingOf, if_pos e]
                  rw [et] at hxs
                  have hw2 : IntKind.i64.wrap ((p.objects.length : Int) + i.obj) = p.objects.length + i.obj := wrap_i64 (by omega) (by omega)
                  simp only [hw, e, decide_true, decide_false, Int.reduceEq, hoA, hpA, hw2, inc64 hlt2 hil, go_sem, Nat.reduceAdd, Nat.reduceMul, Nat.reduceEqDiff, Nat.reduceLeDiff, List.range_zero, List.drop_zero, List.nil_append, reduceIte]
                  exact next _ ⟨s3.n + 1, p.objects.length + i.obj, i.off, true⟩ hxs.symm (hBt _ _) (hA _ _)
              · have hxs : xStep p r s3 i = ⟨s3.n + 1, s3.t, s3.o, s3.is⟩ := by rw [xStep, if_pos hde', if_neg h78]
                have e7 : decide (i.op = 7) = false := by simp; omega
                have e8 : decide (i.op = 8) = false := by simp; omega
                simp only [hw, e7, e8, inc64 hlt2 hil, go_sem, Nat.reduceAdd, Nat.reduceMul, Nat.reduceEqDiff, Nat.reduceLeDiff, List.range_zero, List.drop_zero, List.nil_append, reduceIte]
                exact next _ ⟨s3.n + 1, s3.t, s3.o, s3.is⟩ hxs.symm (hbA _) (hoA _)
            · have hdn' : ¬ i.dreg = r := by simpa using hdn
              have hxs : xStep p r s3 i = s3 := by rw [xStep, if_neg hdn']
              simp only [inc64 hlt2 hil, go_sem, Nat.reduceAdd, Nat.reduceMul, Nat.reduceEqDiff, Nat.reduceLeDiff, List.range_zero, List.drop_zero, List.nil_append, reduceIte]
              exact next _ s3 hxs.symm (hbA _) (hoA _)
          · simp only [decide_eq_false_iff_not] at hge2
            have hjj : j = b.ins.length := by omega
            subst hjj
            rw [List.take_length, ← hfl] at hs3
            simp only [inc64 hlt hlb, go_sem, Nat.reduceAdd, Nat.reduceMul, Nat.reduceEqDiff, Nat.reduceLeDiff, List.range_zero, List.drop_zero, List.nil_append, reduceIte]
            exact hnx _ _ hlt ⟨s3, hs3, hb3, ho3, rfl⟩
      · simp only [decide_eq_false_iff_not] at hge
        have hkk : k = p.blocks.length := by omega
        subst hkk
        rw [List.take_length] at hs
        rw [← hs] at hex hexn
        have hzl := lt_of hz
        have hbZ : ∀ X, HB h (hh.set (h.length + 1) X) := fun X => (hb2.trans hb).set (by omega)
        simp only [go_sem, Nat.reduceAdd, Nat.reduceMul, Nat.reduceEqDiff, Nat.reduceLeDiff, List.range_zero, List.drop_zero, List.nil_append, reduceIte]
        refine AIf_intro (fun h1 => ?_) (fun h1 => ?_)
        · have h1' : s.n = 1 := by simp at h1; omega
          simp only [ho, hz, getS_eq hzl, go_sem, Nat.reduceAdd, Nat.reduceMul, Nat.reduceEqDiff, Nat.reduceLeDiff, List.range_zero, List.drop_zero, List.nil_append, reduceIte]
          have er : (exactR p r).enc3 = .agg [I s.t, I s.o, B s.is] := by
            rw [hex]
            cases hsi : s.is with
            | true => rw [if_pos ⟨h1', rfl⟩]; rfl
            | false =>
              rw [if_neg (by simp)]
              obtain ⟨a, b⟩ := hexn h1' hsi
              rw [a, b]; rfl
          rw [er] at hK
          exact WRet.of (hbZ _).ext (Frz.aggL (.cons .v (.cons .v (.cons .v .nil)))) (by simp) hK
        · have h1' : ¬ s.n = 1 := by simp at h1; omega
          simp only [hz, getS_eq hzl, go_sem, Nat.reduceAdd, Nat.reduceMul, Nat.reduceEqDiff, Nat.reduceLeDiff, List.range_zero, List.drop_zero, List.nil_append, reduceIte]
          rw [hex, if_neg (by simp [h1'])] at hK
          exact WRet.of (hbZ _).ext (Frz.aggL (.cons .v (.cons .v (.cons .v .nil)))) (by simp) hK
end Go.Am
