/- A part of the proof that AliasThings and AliasMeets return true for every module: texts on an abstract reading of the code (AlW5). -/
import Derived.Test.YtdmaniffgdpfeaaXAlW4
set_option linter.unusedVariables false
set_option linter.unusedSimpArgs false
set_option linter.unusedSectionVars false
set_option maxRecDepth 100000
set_option maxHeartbeats 1000000
set_option linter.unusedSimpArgs false
set_option linter.unusedVariables false
namespace Go.Am
open Go Go.Proofs
theorem rowlen {T : Nat} (hT : T < 1099511627776) : IntKind.i64.wrap ((IntKind.i64.wrap (IntKind.i64.wrap ((T : Int) + 64) - 1)).tdiv 64) = (((T + 63) / 64 : Nat) : Int) := by
  rw [wrap_i64 (n := (T : Int) + 64) (by omega) (by omega), wrap_i64 (n := (T : Int) + 64 - 1) (by omega) (by omega), Int.tdiv_eq_ediv_of_nonneg (by omega), wrap_i64 (by omega) (by omega)]
  omega
theorem run62 (p : MProc) (T W v : Nat) (a b c : AV) (fa : flat a = [a]) (fb : flat b = [b]) (fc : flat c = [c]) (hT : T < 1099511627776) (hW : W = (T + 63) / 64) (h : Heap) (hv : h[v]? = some (some (viewObj p T a b c))) (K)
    (hK : K (rowRef W h.length) (h ++ [some (rowObj (List.replicate W 0#64))])) : RunsK Try.prog 62 [.ptr v 10 0 0 []] h K := by
  refine RunsK.intro Try.func62 rfl (by decide) (by simp only [Try.f62, go_sem]; decide) ?_
  simp only [Try.f62]
  simp only [hv, fa, fb, fc, rowlen hT, toNatC, go_sem, Nat.reduceAdd, Nat.reduceMul, Nat.reduceEqDiff, Nat.reduceLeDiff, List.range_zero, List.drop_zero, List.nil_append, reduceIte]
  have hr : ARoom ((T + 63) / 64) 8 := ⟨by omega, by omega⟩
  refine ⟨hr, ?_⟩
  subst hW
  refine ⟨_, _, Wk.same ?_, ?_⟩
  rotate_left
  · rw [rowObj, List.map_replicate] at hK
    exact hK
  · simp
theorem run17_bad (m : MMod) (n : Int) (hn : n < 0 ∨ n ≥ m.procs.length) (h : Heap) (K) (hK : K (.tup [.val (.pointer none), I 4]) h) : RunsK Try.prog 17 [m.enc, I n] h K := by
  refine RunsK.intro Try.func17 rfl (by decide) (by simp only [Try.f17, go_sem]; decide) ?_
  simp only [Try.f17]
  by_cases h0 : n < 0
  · have d0 : decide (n < 0) = true := by simp [h0]
    simp only [d0, go_sem, Nat.reduceAdd, Nat.reduceMul, Nat.reduceEqDiff, Nat.reduceLeDiff, List.range_zero, List.drop_zero, List.nil_append, reduceIte]
    exact WRet.vals (vs := [.pointer none, .int .i64 4]) .mk hK
  · have d0 : decide (n < 0) = false := by simp; omega
    have d1 : decide (n ≥ m.procs.length) = true := by simp; omega
    simp only [d0, d1, go_sem, Nat.reduceAdd, Nat.reduceMul, Nat.reduceEqDiff, Nat.reduceLeDiff, List.range_zero, List.drop_zero, List.nil_append, reduceIte]
    exact WRet.vals (vs := [.pointer none, .int .i64 4]) .mk hK
/-- a view under way: its first registers have rows -/
structure VB (p : MProc) (T n W v oo os pp B : Nat) (k : Nat) (hh : Heap) (ra : AV) (orr : Nat) (ors : List Nat) (rows : List (List W64)) (out : List W64) (sp : List Spot) : Prop where
  hv : hh[v]? = some (some (viewObj p T ra (rowRef W oo) (.sl os 4 0 n (some n))))
  ra : (k = 0 ∧ ra = .val (.slice none 0 0)) ∨ (k ≠ 0 ∧ ra = .sl orr 1 0 k none ∧ hh[orr]? = some (some (.arr 99 1 (ors.map (rowRef W)))))
  ho : hh[oo]? = some (some (rowObj out))
  hs : hh[os]? = some (some (spotsObj sp))
  hp : hh[pp]? = some (some (.arr 32 6 [p.enc]))
  hw : ∀ (i o : Nat), ors[i]? = some o → hh[o]? = some (some (rowObj (rows.getD i [])))
  len : ors.length = k
  rlen : rows.length = k
  row : ∀ r ∈ rows, r.length = W
  olen : out.length = W
  nodup : (oo :: ors).Nodup
  slen : sp.length = n
  ge : B ≤ v ∧ B ≤ oo ∧ B ≤ os ∧ ∀ o ∈ ors, B ≤ o
  geo : k ≠ 0 → B ≤ orr
section
variable {p : MProc} {T n W v oo os pp B k : Nat} {hh : Heap} {ra : AV} {orr : Nat} {ors : List Nat} {rows : List (List W64)} {out : List W64} {sp : List Spot}
/-- one more row, made at the heap's end -/
theorem VB.push (H : VB p T n W v oo os pp B k hh ra orr ors rows out sp) {h3 : Heap} {ob : Nat} {row : List W64} (hrow : row.length = W) (hBl : B ≤ hh.length)
    (e1 : h3[hh.length]? = some (some (rowObj row))) (e2 : h3[ob]? = some (some (.arr 99 1 ((ors ++ [hh.length]).map (rowRef W))))) (e3 : h3[v]? = some (some (viewObj p T (.sl ob 1 0 (k + 1) none) (rowRef W oo) (.sl os 4 0 n (some n)))))
    (e4 : ∀ o, o < hh.length → o ≠ v → (k ≠ 0 → o ≠ orr) → h3[o]? = hh[o]?) (hob : hh.length ≤ ob) : VB p T n W v oo os pp B (k + 1) h3 (.sl ob 1 0 (k + 1) none) ob (ors ++ [hh.length]) (rows ++ [row]) out sp := by
  have keep : ∀ {o : Nat} {ob : AObj}, hh[o]? = some (some ob) → (∀ e sz xs, ob = .arr e sz xs → e ≠ 101 ∧ e ≠ 99) → h3[o]? = some (some ob) := by
    intro o ob ho hne
    rw [e4 o (lt_of ho)]
    · exact ho
    · rintro rfl; rw [H.hv] at ho; cases ho; exact (hne _ _ _ rfl).1 rfl
    · intro hk e
      rcases H.ra with ⟨h0, -⟩ | ⟨-, -, h1⟩
      · exact hk h0
      · rw [e, h1] at ho; cases ho; exact (hne _ _ _ rfl).2 rfl
  have hlt : ∀ o ∈ ors, o < hh.length := fun o ho => by
    obtain ⟨i, hi, rfl⟩ := List.mem_iff_getElem.1 ho
    exact lt_of (H.hw i _ (List.getElem?_eq_getElem hi))
  have hon := lt_of H.ho
  have nd := List.nodup_cons.1 H.nodup
  refine ⟨e3, .inr ⟨by omega, rfl, e2⟩, keep H.ho fun e sz xs h => by cases h; decide, keep H.hs fun e sz xs h => by cases h; decide, keep H.hp fun e sz xs h => by cases h; decide, fun i o e => ?_, by simp [H.len], by simp [H.rlen], ?_, H.olen, ?_, H.slen, ⟨H.ge.1, H.ge.2.1, H.ge.2.2.1, ?_⟩, fun _ => by omega⟩
  · by_cases hi : i < ors.length
    · rw [List.getElem?_append_left hi] at e
      have := keep (H.hw i o e) fun e sz xs h => by cases h; decide
      rw [this]
      have hi2 : i < rows.length := by rw [H.rlen, ← H.len]; exact hi
      simp [List.getD, List.getElem?_append_left hi2]
    · rw [List.getElem?_append_right (by omega)] at e
      cases hj : i - ors.length with
      | succ j => simp [hj] at e
      | zero =>
        simp [hj] at e
        subst e
        have hi2 : i = rows.length := by rw [H.rlen, ← H.len]; omega
        rw [e1, hi2]
        simp [List.getD]
  · intro r hr
    rcases List.mem_append.1 hr with hr | hr
    · exact H.row r hr
    · simp at hr; subst hr; exact hrow
  · refine List.nodup_cons.2 ⟨fun hm => ?_, List.nodup_append.2 ⟨nd.2, by simp, ?_⟩⟩
    · rcases List.mem_append.1 hm with hm | hm
      · exact nd.1 hm
      · simp at hm; omega
    · intro a ha b hb
      simp at hb
      have := hlt a ha
      omega
  · intro o ho
    rcases List.mem_append.1 ho with ho | ho
    · exact H.ge.2.2.2 o ho
    · simp at ho; omega
theorem VB.push0 (hk : k = 0) (H : VB p T n W v oo os pp B k hh ra orr ors rows out sp) (hBl : B ≤ hh.length) {z : List W64} (hz : z.length = W) :
    ∃ X, X = ((hh ++ [some (rowObj z), some (AObj.arr 99 1 [rowRef W hh.length]), some (AObj.arr 99 1 [rowRef W hh.length])]).set v (some (viewObj p T (.sl (hh.length + 2) 1 0 1 none) (rowRef W oo) (.sl os 4 0 n (some n))))) ∧ VB p T n W v oo os pp B (k + 1) X (.sl (hh.length + 2) 1 0 (k + 1) none) (hh.length + 2) (ors ++ [hh.length]) (rows ++ [z]) out sp ∧ (∀ h0 : Heap, h0.length = B → HB h0 hh → HB h0 X) ∧ hh.length ≤ X.length := by
  subst hk
  have hv := lt_of H.hv
  obtain rfl : ors = [] := List.length_eq_zero_iff.1 H.len
  refine ⟨_, rfl, ?_, fun h0 e b => HB.set (HB.app b) (by have := H.ge.1; omega), by simp⟩
  refine H.push hz hBl ?_ ?_ ?_ ?_ (by omega)
  · rw [getS_ne (by omega)]; simp
  · rw [getS_ne (by omega)]; simp
  · rw [getS_eq (by simp; omega)]
  · intro o ho hne _
    rw [getS_ne (Ne.symm hne), List.getElem?_append_left ho]
theorem VB.pushS (H : VB p T n W v oo os pp B k hh ra orr ors rows out sp) (hk : k ≠ 0) (hBl : B ≤ hh.length) {z : List W64} (hz : z.length = W) :
    ∃ X, X = ((((hh ++ [some (rowObj z), some (AObj.arr 99 1 [rowRef W hh.length])]).set orr none) ++ [some (AObj.arr 99 1 (ors.map (rowRef W) ++ [rowRef W hh.length]))]).set v (some (viewObj p T (.sl (hh.length + 2) 1 0 (k + 1) none) (rowRef W oo) (.sl os 4 0 n (some n))))) ∧ VB p T n W v oo os pp B (k + 1) X (.sl (hh.length + 2) 1 0 (k + 1) none) (hh.length + 2) (ors ++ [hh.length]) (rows ++ [z]) out sp ∧ (∀ h0 : Heap, h0.length = B → HB h0 hh → HB h0 X) ∧ hh.length ≤ X.length := by
  have hv := lt_of H.hv
  have hor : orr < hh.length := by
    rcases H.ra with ⟨h0, -⟩ | ⟨-, -, h1⟩
    · exact (hk h0).elim
    · exact lt_of h1
  refine ⟨_, rfl, ?_, fun h0 e b => HB.set (HB.app (HB.set (HB.app b) (by have := H.geo hk; omega))) (by have := H.ge.1; omega), by simp; omega⟩
  refine H.push hz hBl ?_ ?_ ?_ ?_ (by omega)
  · rw [getS_ne (by omega), List.getElem?_append_left (by simp), getS_ne (by omega)]; simp
  · rw [getS_ne (by omega), List.getElem?_append_right (by simp)]; simp
  · rw [getS_eq (by simp; omega)]
  · intro o ho hne hne2
    rw [getS_ne (Ne.symm hne), List.getElem?_append_left (by simp; omega), getS_ne (Ne.symm (hne2 hk)), List.getElem?_append_left ho]
theorem VB.setRow (H : VB p T n W v oo os pp B k hh ra orr ors rows out sp) {i o : Nat} (hi : ors[i]? = some o) {row : List W64} (hrow : row.length = W) : VB p T n W v oo os pp B k (hh.set o (some (rowObj row))) ra orr ors (rows.set i row) out sp := by
  have hil := (List.getElem?_eq_some_iff.1 hi).1
  have e2 := H.hw i o hi
  have hlo := lt_of e2
  have nd := List.nodup_cons.1 H.nodup
  have hir : i < rows.length := by rw [H.rlen, ← H.len]; exact hil
  refine ⟨?_, ?_, ?_, ?_, ?_, fun j o' e => ?_, H.len, by simpa using H.rlen, fun r hr => ?_, H.olen, H.nodup, H.slen, H.ge, H.geo⟩
  · rw [getS_ne (row_ne e2 H.hv fun e sz xs h => by cases h; decide)]; exact H.hv
  · rcases H.ra with h0 | ⟨h0, h1, h2⟩
    · exact .inl h0
    · exact .inr ⟨h0, h1, by rw [getS_ne (row_ne e2 h2 fun e sz xs h => by cases h; decide)]; exact h2⟩
  · rw [getS_ne (fun e' => nd.1 (by rw [← e']; exact List.mem_of_getElem? hi))]; exact H.ho
  · rw [getS_ne (row_ne e2 H.hs fun e sz xs h => by cases h; decide)]; exact H.hs
  · rw [getS_ne (row_ne e2 H.hp fun e sz xs h => by cases h; decide)]; exact H.hp
  · rw [getD_set_regs hir]
    by_cases hj : j = i
    · subst hj
      rw [hi] at e; cases e
      rw [if_pos rfl]; exact getS_eq hlo
    · rw [if_neg hj, getS_ne]
      · exact H.hw j o' e
      · intro h
        rw [← h] at e
        exact hj (nodup_inj nd.2 e hi)
  · rcases List.mem_or_eq_of_mem_set hr with h | rfl
    · exact H.row r h
    · exact hrow
theorem VB.setSpot (H : VB p T n W v oo os pp B k hh ra orr ors rows out sp) {sp' : List Spot} (hl : sp'.length = n) : VB p T n W v oo os pp B k (hh.set os (some (spotsObj sp'))) ra orr ors rows out sp' := by
  have hlo := lt_of H.hs
  have ne : ∀ {o : Nat} {ob : AObj}, hh[o]? = some (some ob) → (∀ e sz xs, ob = .arr e sz xs → e ≠ 106) → os ≠ o := by
    intro o ob h1 h2 e
    subst e
    rw [H.hs] at h1
    cases h1
    exact h2 _ _ _ rfl rfl
  refine ⟨?_, ?_, ?_, getS_eq hlo, ?_, fun i o e => ?_, H.len, H.rlen, H.row, H.olen, H.nodup, hl, H.ge, H.geo⟩
  · rw [getS_ne (ne H.hv fun e sz xs h => by cases h; decide)]; exact H.hv
  · rcases H.ra with h0 | ⟨h0, h1, h2⟩
    · exact .inl h0
    · exact .inr ⟨h0, h1, by rw [getS_ne (ne h2 fun e sz xs h => by cases h; decide)]; exact h2⟩
  · rw [getS_ne (ne H.ho fun e sz xs h => by cases h; decide)]; exact H.ho
  · rw [getS_ne (ne H.hp fun e sz xs h => by cases h; decide)]; exact H.hp
  · rw [getS_ne (ne (H.hw i o e) fun e sz xs h => by cases h; decide)]; exact H.hw i o e
theorem VB.done (H : VB p T n W v oo os pp B n hh ra orr ors rows out sp) : VH ⟨p, T, n, W, v, orr, oo, os, ors, none, some n, ra⟩ hh ⟨rows, out⟩ sp where
  hv := H.hv
  ra hn := by
    rcases H.ra with ⟨h0, -⟩ | ⟨-, h1, -⟩
    · exact (hn h0).elim
    · exact h1
  hr hn := by
    rcases H.ra with ⟨h0, -⟩ | ⟨-, -, h1⟩
    · exact (hn h0).elim
    · exact h1
  ho := H.ho
  hw := H.hw
  hs := H.hs
  len := H.len
  nodup := H.nodup
  wf := ⟨H.rlen, H.row, H.olen⟩
  slen := H.slen
end
end Go.Am
