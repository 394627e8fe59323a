/- A part of the proof that AliasThings and AliasMeets return true for every module: texts on an abstract reading of the code (AlR4, AmSt2). -/
import Derived.Test.YtdmaniffgdpfeaaXAlR2
import Derived.Test.YtdmaniffgdpfeaaXAmSt
set_option linter.unusedVariables false
set_option linter.unusedSimpArgs false
set_option linter.unusedSectionVars false
set_option maxRecDepth 100000
set_option maxHeartbeats 1000000
set_option linter.unusedSimpArgs false
set_option linter.unusedVariables false
namespace Go.Am
open Go Go.Proofs
theorem cntB_succ {l : List Bool} {k : Nat} (h : k < l.length) : cntB (l.take (k + 1)) = cntB (l.take k) + (if l[k] then 1 else 0) := by
  rw [List.take_succ_eq_append_getElem h, cntB, List.countP_append]
  simp [cntB, List.countP_cons]
theorem cntB_take (l : List Bool) (k : Nat) : cntB (l.take k) ≤ cntB l := by
  conv => rhs; rw [← List.take_append_drop k l]
  rw [cntB, cntB, List.countP_append]
  omega
theorem sum_take {l : List Nat} (k : Nat) : (l.take k).sum ≤ l.sum := by
  conv => rhs; rw [← List.take_append_drop k l]
  rw [List.sum_append]
  omega
theorem sum_succ {l : List Nat} {k : Nat} (h : k < l.length) : (l.take (k + 1)).sum = (l.take k).sum + l[k] := by
  rw [List.take_succ_eq_append_getElem h, List.sum_append]; simp
theorem run68 (c : AC) (st : BSt) (hlim : c.T * (c.n + 1) < 9223372036854775808) (hT : c.T < 1099511627776) (hn : c.n < 1099511627776) (h : Heap) (H : AH c h st) (K) (hK : K (I st.tot) h) : RunsK Try.prog 68 [.ptr c.x 2 0 0 []] h K := by
  refine RunsK.intro Try.func68 rfl (by decide) (by simp only [Try.f68, go_sem]; decide) ?_
  simp only [Try.f68]
  simp only [go_sem, Nat.reduceAdd, Nat.reduceMul, Nat.reduceEqDiff, Nat.reduceLeDiff, List.range_zero, List.drop_zero, List.nil_append, reduceIte]
  have hwf := H.wf
  have htot := totB_le hwf
  have hol := hwf.out
  have hrl := hwf.regs
  have hx := H.hx
  have hK : K (I ((st.regs.map cntB).sum + cntB st.out : Nat)) h := hK
  rcases H.ra with ⟨hn0, hra⟩ | ⟨hn0, hra⟩
  · rw [hra] at hx
    have hr0 : st.regs = [] := List.length_eq_zero_iff.1 (by omega)
    refine aLoop_nat [0, 3, 4] 0 (fun k vs hh => h = hh ∧ vs = [.ptr c.x 2 0 0 [], I (0 : Nat), I k]) ?_ ?_
    · simp only [go_sem, Nat.reduceAdd, Nat.reduceMul, Nat.reduceEqDiff, Nat.reduceLeDiff, List.range_zero, List.drop_zero, List.nil_append, reduceIte] <;> simp
    · rintro k vs hh hk - ⟨rfl, rfl⟩ I' μ m' hnx
      have hk0 : k = 0 := by omega
      subst hk0
      have d0 : decide (((0 : Nat) : Int) < 0) = false := by simp
      simp only [ltI, hx, d0, go_sem, Nat.reduceAdd, Nat.reduceMul, Nat.reduceEqDiff, Nat.reduceLeDiff, List.range_zero, List.drop_zero, List.nil_append, reduceIte]
      refine aLoop_nat [0, 3, 6] st.out.length (fun k vs hh => h = hh ∧ vs = [.ptr c.x 2 0 0 [], I (0 + cntB (st.out.take k) : Nat), I k]) ?_ ?_
      · simp only [go_sem, Nat.reduceAdd, Nat.reduceMul, Nat.reduceEqDiff, Nat.reduceLeDiff, List.range_zero, List.drop_zero, List.nil_append, reduceIte] <;> simp [cntB]
      · rintro k vs hh hk - ⟨rfl, rfl⟩ I' μ m' hnx
        have hle := cntB_take st.out k
        simp only [ltI, hx, go_sem, Nat.reduceAdd, Nat.reduceMul, Nat.reduceEqDiff, Nat.reduceLeDiff, List.range_zero, List.drop_zero, List.nil_append, reduceIte]
        refine AIf_intro (fun hlt => ?_) (fun hge => ?_)
        · simp only [decide_eq_true_eq] at hlt
          have hsu := cntB_succ hlt
          simp only [hx, hlt, getD_eq hlt, go_sem, Nat.reduceAdd, Nat.reduceMul, Nat.reduceEqDiff, Nat.reduceLeDiff, List.range_zero, List.drop_zero, List.nil_append, reduceIte]
          cases hv : st.out[k] with
          | true =>
            simp only [inc64 hlt (by omega : st.out.length < 9223372036854775808), go_sem, Nat.reduceAdd, Nat.reduceMul, Nat.reduceEqDiff, Nat.reduceLeDiff, List.range_zero, List.drop_zero, List.nil_append, reduceIte]
            rw [hv] at hsu
            have hle2 := cntB_take st.out (k + 1)
            rw [wrap_i64 (by omega) (by unfold BSt.tot at htot; simp at hsu; omega)]
            refine hnx _ _ hlt ⟨rfl, ?_⟩
            rw [hsu]; simp <;> omega
          | false =>
            simp only [inc64 hlt (by omega : st.out.length < 9223372036854775808), go_sem, Nat.reduceAdd, Nat.reduceMul, Nat.reduceEqDiff, Nat.reduceLeDiff, List.range_zero, List.drop_zero, List.nil_append, reduceIte]
            refine hnx _ _ hlt ⟨rfl, ?_⟩
            rw [hsu, hv]; simp
        · simp only [decide_eq_false_iff_not] at hge
          simp only [go_sem, Nat.reduceAdd, Nat.reduceMul, Nat.reduceEqDiff, Nat.reduceLeDiff, List.range_zero, List.drop_zero, List.nil_append, reduceIte]
          rw [List.take_of_length_le (by omega)]
          have hK2 : K (I (cntB st.out : Nat)) h := by simpa [hr0] using hK
          exact WRet.val .refl hK2
  · rw [hra] at hx
    have hr := H.hr hn0
    refine aLoop_nat [0, 3, 4] c.n (fun k vs hh => h = hh ∧ vs = [.ptr c.x 2 0 0 [], I (((st.regs.map cntB).take k).sum : Nat), I k]) ?_ ?_
    · simp only [go_sem, Nat.reduceAdd, Nat.reduceMul, Nat.reduceEqDiff, Nat.reduceLeDiff, List.range_zero, List.drop_zero, List.nil_append, reduceIte] <;> simp
    · rintro k vs hh hk - ⟨rfl, rfl⟩ I' μ m' hnx
      simp only [ltI, hx, go_sem, Nat.reduceAdd, Nat.reduceMul, Nat.reduceEqDiff, Nat.reduceLeDiff, List.range_zero, List.drop_zero, List.nil_append, reduceIte]
      refine AIf_intro (fun hlt => ?_) (fun hge => ?_)
      · simp only [decide_eq_true_eq] at hlt
        have hkr : k < st.regs.length := by omega
        have hkm : k < (st.regs.map cntB).length := by simpa using hkr
        have hss := sum_succ hkm
        have hst := sum_take (l := st.regs.map cntB) (k + 1)
        have hck : (st.regs.map cntB)[k] = cntB st.regs[k] := by simp
        rw [hck] at hss
        have hrow : st.regs[k].length = c.T := hwf.row _ (List.getElem_mem hkr)
        simp only [go_sem, Nat.reduceAdd, Nat.reduceMul, Nat.reduceEqDiff, Nat.reduceLeDiff, List.range_zero, List.drop_zero, List.nil_append, reduceIte]
        refine aLoop_nat [0, 3, 4, 5] st.regs[k].length (fun t vs hh => h = hh ∧ vs = [.ptr c.x 2 0 0 [], I (((st.regs.map cntB).take k).sum + cntB (st.regs[k].take t) : Nat), I k, I t]) ?_ ?_
        · simp only [go_sem, Nat.reduceAdd, Nat.reduceMul, Nat.reduceEqDiff, Nat.reduceLeDiff, List.range_zero, List.drop_zero, List.nil_append, reduceIte] <;> simp [cntB]
        · rintro t vs hh ht - ⟨rfl, rfl⟩ I2 μ2 m2 hnx2
          have hle := cntB_take st.regs[k] t
          simp only [ltI, hx, hr, bnd hlt, hkr, getD_eq hkr, toNatC, go_sem, Nat.reduceAdd, Nat.reduceMul, Nat.reduceEqDiff, Nat.reduceLeDiff, List.range_zero, List.drop_zero, List.nil_append, reduceIte]
          refine AIf_intro (fun hlt2 => ?_) (fun hge2 => ?_)
          · simp only [decide_eq_true_eq] at hlt2
            have hsu := cntB_succ hlt2
            have hle2 := cntB_take st.regs[k] (t + 1)
            simp only [hx, hr, bnd hlt, hkr, getD_eq hkr, toNatC, hlt2, getD_eq hlt2, go_sem, Nat.reduceAdd, Nat.reduceMul, Nat.reduceEqDiff, Nat.reduceLeDiff, List.range_zero, List.drop_zero, List.nil_append, reduceIte]
            cases hv : st.regs[k][t] with
            | true =>
              simp only [inc64 hlt2 (by omega : st.regs[k].length < 9223372036854775808), go_sem, Nat.reduceAdd, Nat.reduceMul, Nat.reduceEqDiff, Nat.reduceLeDiff, List.range_zero, List.drop_zero, List.nil_append, reduceIte]
              rw [hv] at hsu
              rw [wrap_i64 (by omega) (by unfold BSt.tot at htot; simp at hsu; omega)]
              refine hnx2 _ _ hlt2 ⟨rfl, ?_⟩
              rw [hsu]; simp <;> omega
            | false =>
              simp only [inc64 hlt2 (by omega : st.regs[k].length < 9223372036854775808), go_sem, Nat.reduceAdd, Nat.reduceMul, Nat.reduceEqDiff, Nat.reduceLeDiff, List.range_zero, List.drop_zero, List.nil_append, reduceIte]
              refine hnx2 _ _ hlt2 ⟨rfl, ?_⟩
              rw [hsu, hv]; simp
          · simp only [decide_eq_false_iff_not] at hge2
            simp only [inc64 hlt (by omega : c.n < 9223372036854775808), go_sem, Nat.reduceAdd, Nat.reduceMul, Nat.reduceEqDiff, Nat.reduceLeDiff, List.range_zero, List.drop_zero, List.nil_append, reduceIte]
            rw [show st.regs[k].take t = st.regs[k] from List.take_of_length_le (by omega)]
            refine hnx _ _ hlt ⟨rfl, ?_⟩
            rw [hss]
      · simp only [decide_eq_false_iff_not] at hge
        simp only [go_sem, Nat.reduceAdd, Nat.reduceMul, Nat.reduceEqDiff, Nat.reduceLeDiff, List.range_zero, List.drop_zero, List.nil_append, reduceIte]
        have hkk : (st.regs.map cntB).take k = st.regs.map cntB := List.take_of_length_le (by simp; omega)
        rw [hkk]
        refine aLoop_nat [0, 3, 6] st.out.length (fun k vs hh => h = hh ∧ vs = [.ptr c.x 2 0 0 [], I ((st.regs.map cntB).sum + cntB (st.out.take k) : Nat), I k]) ?_ ?_
        · simp only [go_sem, Nat.reduceAdd, Nat.reduceMul, Nat.reduceEqDiff, Nat.reduceLeDiff, List.range_zero, List.drop_zero, List.nil_append, reduceIte] <;> simp [cntB]
        · rintro k vs hh hk - ⟨rfl, rfl⟩ I' μ m' hnx
          have hle := cntB_take st.out k
          simp only [ltI, hx, go_sem, Nat.reduceAdd, Nat.reduceMul, Nat.reduceEqDiff, Nat.reduceLeDiff, List.range_zero, List.drop_zero, List.nil_append, reduceIte]
          refine AIf_intro (fun hlt => ?_) (fun hge => ?_)
          · simp only [decide_eq_true_eq] at hlt
            have hsu := cntB_succ hlt
            simp only [hx, hlt, getD_eq hlt, go_sem, Nat.reduceAdd, Nat.reduceMul, Nat.reduceEqDiff, Nat.reduceLeDiff, List.range_zero, List.drop_zero, List.nil_append, reduceIte]
            cases hv : st.out[k] with
            | true =>
              simp only [inc64 hlt (by omega : st.out.length < 9223372036854775808), go_sem, Nat.reduceAdd, Nat.reduceMul, Nat.reduceEqDiff, Nat.reduceLeDiff, List.range_zero, List.drop_zero, List.nil_append, reduceIte]
              rw [hv] at hsu
              have hle2 := cntB_take st.out (k + 1)
              rw [wrap_i64 (by omega) (by unfold BSt.tot at htot; simp at hsu; omega)]
              refine hnx _ _ hlt ⟨rfl, ?_⟩
              rw [hsu]; simp <;> omega
            | false =>
              simp only [inc64 hlt (by omega : st.out.length < 9223372036854775808), go_sem, Nat.reduceAdd, Nat.reduceMul, Nat.reduceEqDiff, Nat.reduceLeDiff, List.range_zero, List.drop_zero, List.nil_append, reduceIte]
              refine hnx _ _ hlt ⟨rfl, ?_⟩
              rw [hsu, hv]; simp
          · simp only [decide_eq_false_iff_not] at hge
            simp only [go_sem, Nat.reduceAdd, Nat.reduceMul, Nat.reduceEqDiff, Nat.reduceLeDiff, List.range_zero, List.drop_zero, List.nil_append, reduceIte]
            rw [List.take_of_length_le (by omega)]
            exact WRet.val .refl hK
end Go.Am

namespace Go.Am
open Go
def st18_23 : List Stp := [.q 0, .q 1, .q 2, .q 3, .q 4, .q 5, .q 6, .q 7, .q 8, .q 9, .q 10, .q 11, .q 12, .c 13 []]
def st76_20 : List Stp := [.q 0, .q 1, .q 2, .q 3, .q 4, .q 5, .q 6, .q 7, .c 8 []]
def st83_16 : List Stp := [.q 0, .q 1, .q 2, .q 3, .q 4, .q 5, .q 6, .q 7, .q 8, .c 9 [3], .q 10, .c 11 []]
def st34_17 : List Stp := [.q 0, .q 1, .q 2, .q 3, .q 4, .q 5, .q 6, .q 7, .q 8, .q 9, .q 10, .q 11, .q 12, .q 13, .q 14, .q 15, .c 16 [0], .c 17 [], .c 18 []]
attribute [go_sem] st18_23 st76_20 st83_16 st34_17
end Go.Am
