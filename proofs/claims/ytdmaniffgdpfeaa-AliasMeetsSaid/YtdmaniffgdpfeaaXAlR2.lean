/- A part of the proof that AliasThings and AliasMeets return true for every module: texts on an abstract reading of the code (AlR2). -/
import Derived.Test.YtdmaniffgdpfeaaXAlR3
set_option linter.unusedVariables false
set_option linter.unusedSimpArgs false
set_option linter.unusedSectionVars false
set_option maxRecDepth 100000
set_option maxHeartbeats 1000000
set_option linter.unusedSimpArgs false
set_option linter.unusedVariables false
namespace Go.Am
open Go Go.Proofs
theorem run69 (m : MMod) (p : MProc) (c : AC) (ok : BOk m p c) (st : BSt) (i : MIns) (hl : i.Lens) (hb : InsB p m i) (b : MBlk) (hbm : b ∈ p.blocks) (him : i ∈ b.ins) (h : Heap) (H : AH c h st) (K)
    (hK : ∀ h' st', AH c h' st' → RUB c h h' → GoodB m p c.n c.T st st' → (st' = st → InsC p st.sets i) → K (.tup []) h') : RunsK Try.prog 69 [.ptr c.x 2 0 0 [], I p.objects.length, i.enc] h K := by
  by_cases h9 : i.op = 9
  · exact run69c m p c ok st i h9 hl hb b hbm him h H K hK
  refine RunsK.intro Try.func69 rfl (by decide) (by simp only [Try.f69, go_sem]; decide) ?_
  simp only [Try.f69]
  simp only [go_sem, Nat.reduceAdd, Nat.reduceMul, Nat.reduceEqDiff, Nat.reduceLeDiff, List.range_zero, List.drop_zero, List.nil_append, reduceIte]
  obtain ⟨hh, hhd⟩ : ∃ hh, hh = h ++ [some (AObj.arr 39 11 [i.enc])] := ⟨_, rfl⟩
  have HH : AH c hh st := hhd ▸ H.app
  have hi0 : hh[h.length]? = some (some (AObj.arr 39 11 [i.enc])) := by rw [hhd]; simp
  rw [← hhd]
  have hbx : ∀ h', RUB c hh h' → h'[h.length]? = some (some (AObj.arr 39 11 [i.enc])) := fun h' r => (r.keep H (Nat.le_refl _)).trans hi0
  have fin : ∀ h' st', AH c h' st' → RUB c hh h' → GoodB m p c.n c.T st st' → (st' = st → InsC p st.sets i) → WRet h K (.tup []) h' := by
    intro h' st' H' r hg hc
    have H0 := H
    subst hhd
    obtain ⟨h1, rfl, r1, H1⟩ := H.split H' r
    exact WRet.unit (RUB.hs H0 r1) (hK h1 st' H1 r1 hg hc)
  have clo : ∀ s, Closed m p s → InsC p s i := fun s hs => hs.ins b hbm i him
  have hwf := HH.wf
  have hn := ok.n
  have hT := ok.T
  have hsm := ok.small
  unfold MProc.top at hT
  have reg : ∀ r : Int, 0 ≤ r → r < p.regs → ∃ k : Nat, r = k ∧ k < c.n := fun r h1 h2 => ⟨r.toNat, by omega, by omega⟩
  by_cases h78 : i.op = 7 ∨ i.op = 8
  · obtain ⟨hd1, hd2⟩ := hb.d (by omega) (by omega) (by omega) (by omega)
    obtain ⟨d, hd, hdn⟩ := reg _ hd1 hd2
    have hdl : d < st.regs.length := by rw [hwf.regs]; exact hdn
    have hrl := WFB.len hwf hdn
    rcases h78 with e | e
    · have hob := hb.frame e
      obtain ⟨t, ht⟩ : ∃ t : Nat, i.obj = t := ⟨i.obj.toNat, by omega⟩
      have hG : GoodB m p c.n c.T st _ := GoodB.put hwf hdn (k := t) (by omega) fun s hs => by
        have := (clo s hs).frame e
        rw [hd, ht] at this; simpa using this
      obtain ⟨H2, r2⟩ := HH.setReg (by omega) (WFB.set hwf (d := d) (row := putB (st.regs.getD d []) t) (by rw [putB_length, hrl]))
      have hfin := fin _ _ H2 r2 hG fun he => insC7 e (by
        have := putB_fix hwf hdn (by omega) he
        rw [hd, ht]; simpa using this)
      have hx2 := hbx _ r2
      simp only [e, decide_true, decide_false, Int.reduceEq, hi0, go_sem, Nat.reduceAdd, Nat.reduceMul, Nat.reduceEqDiff, Nat.reduceLeDiff, List.range_zero, List.drop_zero, List.nil_append, reduceIte]
      refine aw_drawn st69_2 mixed (by kernel_rfl) ?_
      simp only [hi0, HH.hx' hdn, HH.hr' hdn, hd, ht, bnd hdn, hdl, toNatC, go_sem, Nat.reduceAdd, Nat.reduceMul, Nat.reduceEqDiff, Nat.reduceLeDiff, List.range_zero, List.drop_zero, List.nil_append, reduceIte]
      refine run123 _ _ (by omega) _ _ ?_
      simp only [hi0, HH.hx' hdn, HH.hr' hdn, hd, ht, bnd hdn, hdl, toNatC, hx2, e, decide_true, decide_false, Int.reduceEq, go_sem, Nat.reduceAdd, Nat.reduceMul, Nat.reduceEqDiff, Nat.reduceLeDiff, List.range_zero, List.drop_zero, List.nil_append, reduceIte]
      exact hfin
    · have hob := hb.glob e
      obtain ⟨t, ht⟩ : ∃ t : Nat, i.obj = t := ⟨i.obj.toNat, by omega⟩
      have hw : IntKind.i64.wrap ((p.objects.length : Int) + t) = ((p.objects.length + t : Nat) : Int) := by rw [wrap_i64 (by omega) (by omega)]; omega
      have hG : GoodB m p c.n c.T st _ := GoodB.put hwf hdn (k := p.objects.length + t) (by omega) fun s hs => by
        have := (clo s hs).glob e
        rw [hd, ht] at this; simpa using this
      obtain ⟨H2, r2⟩ := HH.setReg (by omega) (WFB.set hwf (d := d) (row := putB (st.regs.getD d []) (p.objects.length + t : Nat)) (by rw [putB_length, hrl]))
      have hfin := fin _ _ H2 r2 hG fun he => insC8 e (by
        have := putB_fix hwf hdn (by omega) he
        rw [hd, ht]; simpa using this)
      have hx2 := hbx _ r2
      simp only [e, decide_true, decide_false, Int.reduceEq, hi0, go_sem, Nat.reduceAdd, Nat.reduceMul, Nat.reduceEqDiff, Nat.reduceLeDiff, List.range_zero, List.drop_zero, List.nil_append, reduceIte]
      refine aw_drawn st69_4 mixed (by kernel_rfl) ?_
      simp only [hi0, HH.hx' hdn, HH.hr' hdn, hd, ht, bnd hdn, hdl, toNatC, hw, go_sem, Nat.reduceAdd, Nat.reduceMul, Nat.reduceEqDiff, Nat.reduceLeDiff, List.range_zero, List.drop_zero, List.nil_append, reduceIte]
      refine run123 _ _ (by omega) _ _ ?_
      simp only [hi0, HH.hx' hdn, HH.hr' hdn, hd, ht, bnd hdn, hdl, toNatC, hx2, e, decide_true, decide_false, Int.reduceEq, go_sem, Nat.reduceAdd, Nat.reduceMul, Nat.reduceEqDiff, Nat.reduceLeDiff, List.range_zero, List.drop_zero, List.nil_append, reduceIte]
      exact hfin
  by_cases h2 : i.op = 2
  · obtain ⟨hd1, hd2⟩ := hb.d (by omega) (by omega) (by omega) (by omega)
    obtain ⟨d, hd, hdn⟩ := reg _ hd1 hd2
    obtain ⟨ha1, ha2⟩ := hb.a (by simp [rdA, h2])
    obtain ⟨a, ha, han⟩ := reg _ ha1 ha2
    have hdl : d < st.regs.length := by rw [hwf.regs]; exact hdn
    have hal : a < st.regs.length := by rw [hwf.regs]; exact han
    have hrl := WFB.len hwf hdn
    have hra := WFB.len hwf han
    have hG : GoodB m p c.n c.T st _ := GoodB.joinR hwf hdn han fun s hs t ht => by
      have := (clo s hs).copy h2 t
      rw [hd, ha] at this
      exact this ht
    obtain ⟨H2, r2⟩ := HH.setReg (by omega) (WFB.set hwf (d := d) (row := orB (st.regs.getD d []) (st.regs.getD a [])) (by rw [orB_length (by omega), hrl]))
    have hfin := fin _ _ H2 r2 hG fun he => insC2 h2 (by rw [hd, ha]; exact orR_fix hwf hdn hra he)
    have hx2 := hbx _ r2
    simp only [h2, decide_true, decide_false, Int.reduceEq, hi0, go_sem, Nat.reduceAdd, Nat.reduceMul, Nat.reduceEqDiff, Nat.reduceLeDiff, List.range_zero, List.drop_zero, List.nil_append, reduceIte]
    refine aw_drawn st69_6 mixed (by kernel_rfl) ?_
    simp only [hi0, HH.hx' hdn, HH.hr' hdn, hd, ha, bnd hdn, bnd han, hdl, hal, toNatC, go_sem, Nat.reduceAdd, Nat.reduceMul, Nat.reduceEqDiff, Nat.reduceLeDiff, List.range_zero, List.drop_zero, List.nil_append, reduceIte]
    refine run70 _ _ (by omega) (by omega) _ _ ?_
    simp only [hi0, HH.hx' hdn, HH.hr' hdn, hd, ha, bnd hdn, bnd han, hdl, hal, toNatC, hx2, h2, decide_true, decide_false, Int.reduceEq, go_sem, Nat.reduceAdd, Nat.reduceMul, Nat.reduceEqDiff, Nat.reduceLeDiff, List.range_zero, List.drop_zero, List.nil_append, reduceIte]
    exact hfin
  by_cases h3 : i.op = 3
  · by_cases hfn : i.fn = 1 ∨ i.fn = 2
    · obtain ⟨hd1, hd2⟩ := hb.d (by omega) (by omega) (by omega) (by omega)
      obtain ⟨d, hd, hdn⟩ := reg _ hd1 hd2
      obtain ⟨ha1, ha2⟩ := hb.a (by simp [rdA, h3])
      obtain ⟨a, ha, han⟩ := reg _ ha1 ha2
      obtain ⟨hb1, hb2⟩ := hb.b (by simp [rdB, h3])
      obtain ⟨bb, hbb, hbn⟩ := reg _ hb1 hb2
      have hdl : d < st.regs.length := by rw [hwf.regs]; exact hdn
      have hal : a < st.regs.length := by rw [hwf.regs]; exact han
      have hbl : bb < st.regs.length := by rw [hwf.regs]; exact hbn
      have hrl := WFB.len hwf hdn
      have hra := WFB.len hwf han
      have hrb := WFB.len hwf hbn
      have hor : ∀ (l : List Bool), l.length = c.T → orB (orB (st.regs.getD d []) (st.regs.getD a [])) (st.regs.getD bb []) = orB (st.regs.getD d []) (orB (st.regs.getD a []) (st.regs.getD bb [])) := fun l _ => by
        apply List.ext_getElem?
        intro i
        simp only [orB, List.getElem?_zipWith]
        cases (st.regs.getD d [])[i]? <;> cases (st.regs.getD a [])[i]? <;> cases (st.regs.getD bb [])[i]? <;> simp [Bool.or_assoc]
      have hor' := hor _ hrl
      have habl : (orB (st.regs.getD a []) (st.regs.getD bb [])).length = c.T := by rw [orB_length (by omega), hra]
      have hG : GoodB m p c.n c.T st { st with regs := st.regs.set d (orB (orB (st.regs.getD d []) (st.regs.getD a [])) (st.regs.getD bb [])) } := by
        rw [hor']
        refine GoodB.reg hwf hdn habl fun s hs hsub t ht => ?_
        rw [getD_orB (by omega)] at ht
        simp only [Bool.or_eq_true] at ht
        rcases ht with ht | ht
        · have := (clo s hs).binA h3 hfn t
          rw [hd, ha] at this
          exact this (hsub.R a t ht)
        · have := (clo s hs).binB h3 hfn t
          rw [hd, hbb] at this
          exact this (hsub.R bb t ht)
      obtain ⟨H2, r2⟩ := HH.setReg (by omega) (WFB.set hwf (d := d) (row := orB (orB (st.regs.getD d []) (st.regs.getD a [])) (st.regs.getD bb [])) (by rw [orB_length (by rw [orB_length (by omega)]; omega), orB_length (by omega), hrl]))
      have hfin := fin _ _ H2 r2 hG fun he => insC3 h3 fun _ => by
        rw [hor'] at he
        have := orR_fix hwf hdn habl he
        rw [hd, ha, hbb]
        exact ⟨fun t ht => this t (by rw [getD_orB (by omega)]; rw [show (st.regs.getD a []).getD t false = true from ht]; rfl), fun t ht => this t (by rw [getD_orB (by omega)]; rw [show (st.regs.getD bb []).getD t false = true from ht]; simp)⟩
      have hx2 := hbx _ r2
      have hfn1 : (decide (i.fn = 1) = true) ∨ (decide (i.fn = 1) = false ∧ decide (i.fn = 2) = true) := by
        rcases hfn with e | e
        · left; simp [e]
        · right; simp [e]
      simp only [h3, decide_true, decide_false, Int.reduceEq, hi0, go_sem, Nat.reduceAdd, Nat.reduceMul, Nat.reduceEqDiff, Nat.reduceLeDiff, List.range_zero, List.drop_zero, List.nil_append, reduceIte]
      rcases hfn1 with f1 | ⟨f1, f2⟩
      · simp only [f1, hi0, go_sem, Nat.reduceAdd, Nat.reduceMul, Nat.reduceEqDiff, Nat.reduceLeDiff, List.range_zero, List.drop_zero, List.nil_append, reduceIte]
        refine aw_drawn st69_8 mixed (by kernel_rfl) ?_
        simp only [hi0, HH.hx' hdn, HH.hr' hdn, hd, ha, hbb, bnd hdn, bnd han, bnd hbn, hdl, hal, hbl, toNatC, go_sem, Nat.reduceAdd, Nat.reduceMul, Nat.reduceEqDiff, Nat.reduceLeDiff, List.range_zero, List.drop_zero, List.nil_append, reduceIte]
        refine run70 _ _ (by omega) (by omega) _ _ ?_
        simp only [hi0, HH.hx' hdn, HH.hr' hdn, hd, ha, hbb, bnd hdn, bnd han, bnd hbn, hdl, hal, hbl, toNatC, go_sem, Nat.reduceAdd, Nat.reduceMul, Nat.reduceEqDiff, Nat.reduceLeDiff, List.range_zero, List.drop_zero, List.nil_append, reduceIte]
        refine run70 _ _ (by rw [orB_length (by omega)]; omega) (by rw [orB_length (by omega)]; omega) _ _ ?_
        simp only [hi0, HH.hx' hdn, HH.hr' hdn, hd, ha, hbb, bnd hdn, bnd han, bnd hbn, hdl, hal, hbl, toNatC, hx2, h3, decide_true, decide_false, Int.reduceEq, go_sem, Nat.reduceAdd, Nat.reduceMul, Nat.reduceEqDiff, Nat.reduceLeDiff, List.range_zero, List.drop_zero, List.nil_append, reduceIte]
        exact hfin
      · simp only [f1, f2, hi0, go_sem, Nat.reduceAdd, Nat.reduceMul, Nat.reduceEqDiff, Nat.reduceLeDiff, List.range_zero, List.drop_zero, List.nil_append, reduceIte]
        refine aw_drawn st69_8 mixed (by kernel_rfl) ?_
        simp only [hi0, HH.hx' hdn, HH.hr' hdn, hd, ha, hbb, bnd hdn, bnd han, bnd hbn, hdl, hal, hbl, toNatC, go_sem, Nat.reduceAdd, Nat.reduceMul, Nat.reduceEqDiff, Nat.reduceLeDiff, List.range_zero, List.drop_zero, List.nil_append, reduceIte]
        refine run70 _ _ (by omega) (by omega) _ _ ?_
        simp only [hi0, HH.hx' hdn, HH.hr' hdn, hd, ha, hbb, bnd hdn, bnd han, bnd hbn, hdl, hal, hbl, toNatC, go_sem, Nat.reduceAdd, Nat.reduceMul, Nat.reduceEqDiff, Nat.reduceLeDiff, List.range_zero, List.drop_zero, List.nil_append, reduceIte]
        refine run70 _ _ (by rw [orB_length (by omega)]; omega) (by rw [orB_length (by omega)]; omega) _ _ ?_
        simp only [hi0, HH.hx' hdn, HH.hr' hdn, hd, ha, hbb, bnd hdn, bnd han, bnd hbn, hdl, hal, hbl, toNatC, hx2, h3, decide_true, decide_false, Int.reduceEq, go_sem, Nat.reduceAdd, Nat.reduceMul, Nat.reduceEqDiff, Nat.reduceLeDiff, List.range_zero, List.drop_zero, List.nil_append, reduceIte]
        exact hfin
    · have f1 : decide (i.fn = 1) = false := by simp; omega
      have f2 : decide (i.fn = 2) = false := by simp; omega
      simp only [h3, decide_true, decide_false, Int.reduceEq, hi0, f1, f2, go_sem, Nat.reduceAdd, Nat.reduceMul, Nat.reduceEqDiff, Nat.reduceLeDiff, List.range_zero, List.drop_zero, List.nil_append, reduceIte]
      exact fin hh st HH .refl (.refl hwf) fun _ => insC3 h3 fun x => absurd x hfn
  by_cases h5 : i.op = 5
  · obtain ⟨hd1, hd2⟩ := hb.d (by omega) (by omega) (by omega) (by omega)
    obtain ⟨d, hd, hdn⟩ := reg _ hd1 hd2
    have hdl : d < st.regs.length := by rw [hwf.regs]; exact hdn
    have hrl := WFB.len hwf hdn
    have hol := hwf.out
    by_cases hs4 : i.size = 4
    · have hG : GoodB m p c.n c.T st _ := GoodB.joinO hwf hdn fun s hs t ht => by
        have := (clo s hs).load h5 hs4 t
        rw [hd] at this
        exact this ht
      obtain ⟨H2, r2⟩ := HH.setReg (by omega) (WFB.set hwf (d := d) (row := orB (st.regs.getD d []) st.out) (by rw [orB_length (by omega), hrl]))
      have hfin := fin _ _ H2 r2 hG fun he => insC5 h5 fun _ => by rw [hd]; exact orR_fix hwf hdn hol he
      have hx2 := hbx _ r2
      simp only [h5, hs4, decide_true, decide_false, Int.reduceEq, hi0, go_sem, Nat.reduceAdd, Nat.reduceMul, Nat.reduceEqDiff, Nat.reduceLeDiff, List.range_zero, List.drop_zero, List.nil_append, reduceIte]
      refine aw_drawn st69_10 mixed (by kernel_rfl) ?_
      simp only [hi0, HH.hx' hdn, HH.hr' hdn, hd, bnd hdn, hdl, toNatC, go_sem, Nat.reduceAdd, Nat.reduceMul, Nat.reduceEqDiff, Nat.reduceLeDiff, List.range_zero, List.drop_zero, List.nil_append, reduceIte]
      refine run70 _ _ (by omega) (by omega) _ _ ?_
      simp only [hi0, HH.hx' hdn, HH.hr' hdn, hd, bnd hdn, hdl, toNatC, hx2, h5, decide_true, decide_false, Int.reduceEq, go_sem, Nat.reduceAdd, Nat.reduceMul, Nat.reduceEqDiff, Nat.reduceLeDiff, List.range_zero, List.drop_zero, List.nil_append, reduceIte]
      exact hfin
    · have f4 : decide (i.size = 4) = false := by simp [hs4]
      simp only [h5, decide_true, decide_false, Int.reduceEq, hi0, f4, go_sem, Nat.reduceAdd, Nat.reduceMul, Nat.reduceEqDiff, Nat.reduceLeDiff, List.range_zero, List.drop_zero, List.nil_append, reduceIte]
      exact fin hh st HH .refl (.refl hwf) fun _ => insC5 h5 fun x => absurd x hs4
  by_cases h6 : i.op = 6
  · obtain ⟨hb1, hb2⟩ := hb.b (by simp [rdB, h6])
    obtain ⟨bb, hbb, hbn⟩ := reg _ hb1 hb2
    have hbl : bb < st.regs.length := by rw [hwf.regs]; exact hbn
    have hrb := WFB.len hwf hbn
    have hol := hwf.out
    by_cases hs4 : i.size = 4
    · have hG : GoodB m p c.n c.T st _ := GoodB.let_ hwf hbn fun s hs t ht => by
        have := (clo s hs).store h6 hs4 t
        rw [hbb] at this
        exact this ht
      obtain ⟨H2, r2⟩ := HH.setOut (out := orB st.out (st.regs.getD bb [])) ⟨hwf.regs, hwf.row, by rw [orB_length (by omega), hol]⟩
      have hfin := fin _ _ H2 r2 hG fun he => insC6 h6 fun _ => by rw [hbb]; exact letB_fix hwf hbn he
      have hx2 := hbx _ r2
      have hra := H2.hx' hbn
      have e0 : allObj c.ra (orB st.out (st.regs.getD bb [])) = allObj (.sl c.rr 1 0 c.n c.cr) (orB st.out (st.regs.getD bb [])) := by
        rcases HH.ra with ⟨e, -⟩ | ⟨-, e⟩
        · omega
        · rw [e]
      rw [e0] at hfin hx2
      simp only [h6, hs4, decide_true, decide_false, Int.reduceEq, hi0, go_sem, Nat.reduceAdd, Nat.reduceMul, Nat.reduceEqDiff, Nat.reduceLeDiff, List.range_zero, List.drop_zero, List.nil_append, reduceIte]
      refine aw_drawn st69_12 mixed (by kernel_rfl) ?_
      simp only [hi0, HH.hx' hbn, HH.hr' hbn, hbb, bnd hbn, hbl, toNatC, go_sem, Nat.reduceAdd, Nat.reduceMul, Nat.reduceEqDiff, Nat.reduceLeDiff, List.range_zero, List.drop_zero, List.nil_append, reduceIte]
      refine run70 _ _ (by omega) (by omega) _ _ ?_
      simp only [hi0, HH.hx' hbn, HH.hr' hbn, hbb, bnd hbn, hbl, toNatC, hx2, h6, decide_true, decide_false, Int.reduceEq, go_sem, Nat.reduceAdd, Nat.reduceMul, Nat.reduceEqDiff, Nat.reduceLeDiff, List.range_zero, List.drop_zero, List.nil_append, reduceIte]
      exact hfin
    · have f4 : decide (i.size = 4) = false := by simp [hs4]
      simp only [h6, decide_true, decide_false, Int.reduceEq, hi0, f4, go_sem, Nat.reduceAdd, Nat.reduceMul, Nat.reduceEqDiff, Nat.reduceLeDiff, List.range_zero, List.drop_zero, List.nil_append, reduceIte]
      exact fin hh st HH .refl (.refl hwf) fun _ => insC6 h6 fun x => absurd x hs4
  have d7 : decide (i.op = 7) = false := by simp; omega
  have d8 : decide (i.op = 8) = false := by simp; omega
  have d2 : decide (i.op = 2) = false := by simp; omega
  have d3 : decide (i.op = 3) = false := by simp; omega
  have d5 : decide (i.op = 5) = false := by simp; omega
  have d6 : decide (i.op = 6) = false := by simp; omega
  have d9 : decide (i.op = 9) = false := by simp; omega
  simp only [d7, d8, d2, d3, d5, d6, d9, hi0, go_sem, Nat.reduceAdd, Nat.reduceMul, Nat.reduceEqDiff, Nat.reduceLeDiff, List.range_zero, List.drop_zero, List.nil_append, reduceIte]
  exact fin hh st HH .refl (.refl hwf) fun _ => insC0 (by omega)
end Go.Am
