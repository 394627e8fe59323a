/- A part of the proof that AliasThings and AliasMeets return true for every module: texts on an abstract reading of the code (AlW3, AlW4). -/
import Derived.Test.YtdmaniffgdpfeaaXAlW2
set_option linter.unusedVariables false
set_option linter.unusedSimpArgs false
set_option linter.unusedSectionVars false
set_option maxRecDepth 100000
set_option maxHeartbeats 1000000
set_option linter.unusedSimpArgs false
set_option linter.unusedVariables false
namespace Go.Am
open Go Go.Proofs
structure VOk (m : MMod) (c : VC) : Prop where
  n : (c.n : Int) = c.p.regs
  T : c.T = c.p.top m
  W : c.W = (c.T + 63) / 64
  small : c.T < 1099511627776
theorem VOk.idx {m c} (h : VOk m c) {t : Nat} (ht : t < c.T) : t / 64 < c.W := by rw [h.W]; omega
theorem VOk.lim {m c} (h : VOk m c) : c.W < 9223372036854775808 := by have := h.small; rw [h.W]; omega
theorem RU.keep {c : VC} {h hh h' : Heap} {st sp} (H : VH c h st sp) (r : RU c hh h') {o : Nat} (ho : h.length ≤ o) : h'[o]? = hh[o]? := by
  obtain ⟨b1, b2, b3, b4, b5⟩ := H.below
  rcases r.obj o with e | ⟨e, -⟩ | ⟨e, -⟩
  · exact e
  · rcases e with e | e
    · omega
    · have := b5 _ e; omega
  · omega
theorem insC7 {p s i} (e : i.op = 7) (h : s.R i.d.toNat i.obj.toNat) : InsC p s i :=
  { frame := fun _ => h, glob := fun x => by omega, copy := fun x => by omega, binA := fun x => by omega, binB := fun x => by omega, load := fun x => by omega, store := fun x => by omega, args := fun x => by omega, call := fun x => by omega }
theorem insC8 {p s i} (e : i.op = 8) (h : s.R i.d.toNat (p.objects.length + i.obj.toNat)) : InsC p s i :=
  { frame := fun x => by omega, glob := fun _ => h, copy := fun x => by omega, binA := fun x => by omega, binB := fun x => by omega, load := fun x => by omega, store := fun x => by omega, args := fun x => by omega, call := fun x => by omega }
theorem insC2 {p s i} (e : i.op = 2) (h : ∀ t, s.R i.a.toNat t → s.R i.d.toNat t) : InsC p s i :=
  { frame := fun x => by omega, glob := fun x => by omega, copy := fun _ => h, binA := fun x => by omega, binB := fun x => by omega, load := fun x => by omega, store := fun x => by omega, args := fun x => by omega, call := fun x => by omega }
theorem insC3 {p s i} (e : i.op = 3) (h : (i.fn = 1 ∨ i.fn = 2) → (∀ t, s.R i.a.toNat t → s.R i.d.toNat t) ∧ ∀ t, s.R i.b.toNat t → s.R i.d.toNat t) : InsC p s i :=
  { frame := fun x => by omega, glob := fun x => by omega, copy := fun x => by omega, binA := fun _ x => (h x).1, binB := fun _ x => (h x).2, load := fun x => by omega, store := fun x => by omega, args := fun x => by omega, call := fun x => by omega }
theorem insC5 {p s i} (e : i.op = 5) (h : i.size = 4 → ∀ t, s.O t → s.R i.d.toNat t) : InsC p s i :=
  { frame := fun x => by omega, glob := fun x => by omega, copy := fun x => by omega, binA := fun x => by omega, binB := fun x => by omega, load := fun _ => h, store := fun x => by omega, args := fun x => by omega, call := fun x => by omega }
theorem insC6 {p s i} (e : i.op = 6) (h : i.size = 4 → ∀ t, s.R i.b.toNat t → s.O t) : InsC p s i :=
  { frame := fun x => by omega, glob := fun x => by omega, copy := fun x => by omega, binA := fun x => by omega, binB := fun x => by omega, load := fun x => by omega, store := fun _ => h, args := fun x => by omega, call := fun x => by omega }
theorem insC9 {p s i} (e : i.op = 9) (h : ∀ r ∈ i.args, ∀ t, s.R r.toNat t → s.O t) (h2 : i.d ≠ -1 → ∀ t, s.O t → s.R i.d.toNat t) : InsC p s i :=
  { frame := fun x => by omega, glob := fun x => by omega, copy := fun x => by omega, binA := fun x => by omega, binB := fun x => by omega, load := fun x => by omega, store := fun x => by omega, args := fun _ => h, call := fun _ => h2 }
theorem insC0 {p s i} (h : ¬ (i.op = 7 ∨ i.op = 8 ∨ i.op = 2 ∨ i.op = 3 ∨ i.op = 5 ∨ i.op = 6 ∨ i.op = 9)) : InsC p s i :=
  { frame := fun x => by omega, glob := fun x => by omega, copy := fun x => by omega, binA := fun x => by omega, binB := fun x => by omega, load := fun x => by omega, store := fun x => by omega, args := fun x => by omega, call := fun x => by omega }
theorem decNe {p : Prop} [Decidable p] : decide (¬ p) = !decide p := by simp
theorem ofDN {p : Prop} [Decidable p] (h : decide (¬ p) = false) : p := by simpa using h
theorem run67 (m : MMod) (c : VC) (ok : VOk m c) (st : VSt) (sp : List Spot) (i : MIns) (hl : i.Lens) (hb : InsB c.p m i) (b : MBlk) (hbm : b ∈ c.p.blocks) (him : i ∈ b.ins) (h : Heap) (H : VH c h st sp) (K)
    (hK : ∀ h' st' g, VH c h' st' sp → RU c h h' → Good m c.p c.n c.W st st' g → (g = false → InsC c.p st.sets i) → K (B g) h') : RunsK Try.prog 67 [.ptr c.v 10 0 0 [], i.enc] h K := by
  refine RunsK.intro Try.func67 rfl (by decide) (by simp only [Try.f67, go_sem]; decide) ?_
  simp only [Try.f67]
  simp only [go_sem, Nat.reduceAdd, Nat.reduceEqDiff, reduceIte]
  obtain ⟨hh, hhd⟩ : ∃ hh, hh = h ++ [some (AObj.arr 39 11 [i.enc])] := ⟨_, rfl⟩
  have HH : VH c hh st sp := hhd ▸ H.app
  have hi0 : hh[h.length]? = some (some (AObj.arr 39 11 [i.enc])) := by rw [hhd]; simp
  rw [← hhd]
  have hbx : ∀ h', RU c hh h' → h'[h.length]? = some (some (AObj.arr 39 11 [i.enc])) := fun h' r => (r.keep H (Nat.le_refl _)).trans hi0
  have fin : ∀ h' st' g, VH c h' st' sp → RU c hh h' → Good m c.p c.n c.W st st' g → (g = false → InsC c.p st.sets i) → WRet h K (B g) h' := by
    intro h' st' g H' r hg hc
    have H0 := H
    subst hhd
    obtain ⟨h1, rfl, r1, H1⟩ := H.split H' r
    exact WRet.hs r1.hs (hK h1 st' g H1 r1 hg hc)
  have clo : ∀ s, Closed m c.p s → InsC c.p s i := fun s hs => hs.ins b hbm i him
  have hwf := HH.wf
  have hlim := ok.lim
  have hn := ok.n
  have hT := ok.T
  have hsm := ok.small
  unfold MProc.top at hT
  have reg : ∀ r : Int, 0 ≤ r → r < c.p.regs → ∃ k : Nat, r = k ∧ k < c.n := fun r h1 h2 => ⟨r.toNat, by omega, by omega⟩
  by_cases h78 : i.op = 7 ∨ i.op = 8
  · obtain ⟨hd1, hd2⟩ := hb.d (by omega) (by omega) (by omega) (by omega)
    obtain ⟨d, hd, hdn⟩ := reg _ hd1 hd2
    obtain ⟨t, ht, htT⟩ : ∃ t : Nat, thingOf c.p i = t ∧ t < c.T := by
      rcases h78 with e | e
      · have := hb.frame e
        refine ⟨i.obj.toNat, ?_, by omega⟩
        rw [thingOf, if_neg (by omega)]; omega
      · have := hb.glob e
        refine ⟨c.p.objects.length + i.obj.toNat, ?_, by omega⟩
        rw [thingOf, if_pos e]; omega
    obtain ⟨e1, e2⟩ := HH.getO hdn
    have hdl : d < c.ors.length := by rw [HH.len]; exact hdn
    have hrl := WF.len hwf hdn
    have hti := ok.idx htT
    have hcl : ∀ s, Closed m c.p s → s.R d t := by
      intro s hs
      rcases h78 with e | e
      · have := (clo s hs).frame e
        rw [thingOf, if_neg (by omega)] at ht
        rw [hd, ht] at this; simpa using this
      · have := (clo s hs).glob e
        rw [thingOf, if_pos e] at ht
        have e3 : c.p.objects.length + i.obj.toNat = t := by have := hb.glob e; omega
        rw [hd, e3] at this; simpa using this
    have hG : Good m c.p c.n c.W st _ _ := Good.put hwf hdn hti hcl
    have hF : decide (rowPut (st.regs.getD d []) t ≠ st.regs.getD d []) = false → InsC c.p st.sets i := by
      intro hf
      have := put_fix hwf hdn hti (ofDN hf)
      rcases h78 with e | e
      · refine insC7 e ?_
        rw [thingOf, if_neg (by omega)] at ht
        rw [hd, ht]; simpa using this
      · refine insC8 e ?_
        rw [thingOf, if_pos e] at ht
        have e3 : c.p.objects.length + i.obj.toNat = t := by have := hb.glob e; omega
        rw [hd, e3]; simpa using this
    have hfin := fin _ _ _ (HH.setReg hdn (row := rowPut (st.regs.getD d []) t) (by rw [rowPut_length, hrl])) (RU.row (.inr (List.mem_of_getElem? e1))) hG hF
    have hob : i.op = 8 → -1099511627776 ≤ i.obj ∧ i.obj ≤ 1099511627776 := fun e => by have := hb.glob e; omega
    rcases h78 with e | e
    · simp only [e, decide_true, decide_false, Int.reduceEq, hi0, go_sem, Nat.reduceAdd, Nat.reduceEqDiff, reduceIte]
      refine aw_drawn st67_4 mixed (by kernel_rfl) ?_
      simp only [e, decide_true, decide_false, Int.reduceEq, hi0, HH.hv' hdn, HH.hr' hdn, hd, bnd hdn, hdl, toNatC, go_sem, Nat.reduceAdd, Nat.reduceEqDiff, reduceIte]
      refine run122 c st sp i _ HH hob (by omega) _ ?_
      simp only [e, decide_true, decide_false, Int.reduceEq, hi0, HH.hv' hdn, HH.hr' hdn, hd, bnd hdn, hdl, toNatC, ht, go_sem, Nat.reduceAdd, Nat.reduceEqDiff, reduceIte]
      refine run63 _ c.W _ _ t hrl hti (by omega) hh e2 _ ?_
      simp only [go_sem, Nat.reduceAdd, Nat.reduceEqDiff, reduceIte]
      exact hfin
    · simp only [e, decide_true, decide_false, Int.reduceEq, hi0, go_sem, Nat.reduceAdd, Nat.reduceEqDiff, reduceIte]
      refine aw_drawn st67_4 mixed (by kernel_rfl) ?_
      simp only [e, decide_true, decide_false, Int.reduceEq, hi0, HH.hv' hdn, HH.hr' hdn, hd, bnd hdn, hdl, toNatC, go_sem, Nat.reduceAdd, Nat.reduceEqDiff, reduceIte]
      refine run122 c st sp i _ HH hob (by omega) _ ?_
      simp only [e, decide_true, decide_false, Int.reduceEq, hi0, HH.hv' hdn, HH.hr' hdn, hd, bnd hdn, hdl, toNatC, ht, go_sem, Nat.reduceAdd, Nat.reduceEqDiff, reduceIte]
      refine run63 _ c.W _ _ t hrl hti (by omega) hh e2 _ ?_
      simp only [go_sem, Nat.reduceAdd, Nat.reduceEqDiff, reduceIte]
      exact hfin
  by_cases h2 : i.op = 2
  · obtain ⟨hd1, hd2⟩ := hb.d (by omega) (by omega) (by omega) (by omega)
    obtain ⟨d, hd, hdn⟩ := reg _ hd1 hd2
    obtain ⟨ha1, ha2⟩ := hb.a (by simp [rdA, h2])
    obtain ⟨a, ha, han⟩ := reg _ ha1 ha2
    obtain ⟨e1, e2⟩ := HH.getO hdn
    obtain ⟨a1, a2⟩ := HH.getO han
    have hdl : d < c.ors.length := by rw [HH.len]; exact hdn
    have hal : a < c.ors.length := by rw [HH.len]; exact han
    have hrl := WF.len hwf hdn
    have hra := WF.len hwf han
    have hG : Good m c.p c.n c.W st _ _ := Good.joinR hwf hdn han fun s hs t ht => by
      have := (clo s hs).copy h2 t
      rw [hd, ha] at this
      exact this ht
    have hfin := fin _ _ _ (HH.setReg hdn (row := rowJoin (st.regs.getD d []) (st.regs.getD a [])) (by rw [rowJoin_length (by omega), hrl])) (RU.row (.inr (List.mem_of_getElem? e1))) hG fun hf => insC2 h2 (by
      rw [hd, ha]; exact joinR_fix hwf hdn han (ofDN hf))
    simp only [h2, decide_true, decide_false, Int.reduceEq, hi0, go_sem, Nat.reduceAdd, Nat.reduceEqDiff, reduceIte]
    refine aw_drawn st67_6 mixed (by kernel_rfl) ?_
    simp only [h2, decide_true, decide_false, Int.reduceEq, hi0, HH.hv' hdn, HH.hr' hdn, hd, ha, bnd hdn, bnd han, hdl, hal, toNatC, go_sem, Nat.reduceAdd, Nat.reduceEqDiff, reduceIte]
    refine run64 _ _ c.W _ _ _ _ hrl hra hlim hh e2 a2 _ ?_
    simp only [go_sem, Nat.reduceAdd, Nat.reduceEqDiff, reduceIte]
    exact hfin
  by_cases h3 : i.op = 3
  · by_cases hfn : i.fn = 1 ∨ i.fn = 2
    · obtain ⟨hd1, hd2⟩ := hb.d (by omega) (by omega) (by omega) (by omega)
      obtain ⟨d, hd, hdn⟩ := reg _ hd1 hd2
      obtain ⟨ha1, ha2⟩ := hb.a (by simp [rdA, h3])
      obtain ⟨a, ha, han⟩ := reg _ ha1 ha2
      obtain ⟨hb1, hb2⟩ := hb.b (by simp [rdB, h3])
      obtain ⟨bb, hbb, hbn⟩ := reg _ hb1 hb2
      obtain ⟨e1, e2⟩ := HH.getO hdn
      obtain ⟨a1, a2⟩ := HH.getO han
      have hdl : d < c.ors.length := by rw [HH.len]; exact hdn
      have hal : a < c.ors.length := by rw [HH.len]; exact han
      have hbl : bb < c.ors.length := by rw [HH.len]; exact hbn
      have hrl := WF.len hwf hdn
      have hra := WF.len hwf han
      have hG1 : Good m c.p c.n c.W st _ _ := Good.joinR hwf hdn han fun s hs t ht => by
        have := (clo s hs).binA h3 hfn t
        rw [hd, ha] at this
        exact this ht
      have H1 := HH.setReg hdn (row := rowJoin (st.regs.getD d []) (st.regs.getD a [])) (by rw [rowJoin_length (by omega), hrl])
      have r1 : RU c hh _ := RU.row (ws := rowJoin (st.regs.getD d []) (st.regs.getD a [])) (.inr (List.mem_of_getElem? e1))
      have hx1 := hbx _ r1
      generalize hg1 : decide (rowJoin (st.regs.getD d []) (st.regs.getD a []) ≠ st.regs.getD d []) = g1 at hG1
      have fix1 : g1 = false → ∀ t, st.sets.R a t → st.sets.R d t := fun e => joinR_fix hwf hdn han (ofDN (hg1.trans e))
      have go : ∀ (h1 : Heap) (st1 : VSt), VH c h1 st1 sp → RU c hh h1 → h1[h.length]? = some (some (AObj.arr 39 11 [i.enc])) → Good m c.p c.n c.W st st1 g1 →
          ∀ g2, g2 = (g1 || decide (rowJoin (st1.regs.getD d []) (st1.regs.getD bb []) ≠ st1.regs.getD d [])) → WRet h K (B g2) (h1.set (c.ors.getD d 0) (some (rowObj (rowJoin (st1.regs.getD d []) (st1.regs.getD bb []))))) := by
        rintro h1 st1 H1 r1 - hG1 g2 rfl
        have hw1 := H1.wf
        have hG2 : Good m c.p c.n c.W st1 _ _ := Good.joinR hw1 hdn hbn fun s hs t ht => by
          have := (clo s hs).binB h3 hfn t
          rw [hd, hbb] at this
          exact this ht
        have q1 := WF.len hw1 hdn
        have q2 := WF.len hw1 hbn
        refine fin _ _ _ (H1.setReg hdn (by rw [rowJoin_length (by omega), q1])) (r1.trans (RU.row (.inr (List.mem_of_getElem? e1)))) (hG1.trans hG2 rfl) fun hf => ?_
        simp only [Bool.or_eq_false_iff] at hf
        have := hG1.eq hf.1
        subst this
        refine insC3 h3 fun _ => ⟨?_, ?_⟩
        · rw [hd, ha]; exact fix1 hf.1
        · rw [hd, hbb]; exact joinR_fix hwf hdn hbn (ofDN hf.2)
      simp only [h3, decide_true, decide_false, Int.reduceEq, hi0, go_sem, Nat.reduceAdd, Nat.reduceEqDiff, reduceIte]
      have hfn1 : (decide (i.fn = 1) = true) ∨ (decide (i.fn = 1) = false ∧ decide (i.fn = 2) = true) := by
        rcases hfn with e | e
        · left; simp [e]
        · right; simp [e]
      rcases hfn1 with f1 | ⟨f1, f2⟩
      · simp only [f1, hi0, go_sem, Nat.reduceAdd, Nat.reduceEqDiff, reduceIte]
        refine aw_drawn st67_10 mixed (by kernel_rfl) ?_
        simp only [hi0, HH.hv' hdn, HH.hr' hdn, hd, ha, bnd hdn, bnd han, hdl, hal, toNatC, go_sem, Nat.reduceAdd, Nat.reduceEqDiff, reduceIte]
        refine run64 _ _ c.W _ _ _ _ hrl hra hlim hh e2 a2 _ ?_
        simp only [hg1, go_sem, Nat.reduceAdd, Nat.reduceEqDiff, reduceIte]
        have gg := go _ _ H1 r1 hx1 hG1
        obtain ⟨p1, p2⟩ := H1.getO hdn
        obtain ⟨p3, p4⟩ := H1.getO hbn
        have q1 := WF.len H1.wf hdn
        have q2 := WF.len H1.wf hbn
        generalize hh.set (c.ors.getD d 0) (some (rowObj (rowJoin (st.regs.getD d []) (st.regs.getD a [])))) = h1 at H1 r1 hx1 gg p2 p4
        refine aw_drawn st67_11 mixed (by kernel_rfl) ?_
        simp only [hx1, H1.hv' hdn, H1.hr' hdn, hd, hbb, bnd hdn, bnd hbn, hdl, hbl, toNatC, go_sem, Nat.reduceAdd, Nat.reduceEqDiff, reduceIte]
        refine run64 _ _ c.W _ _ _ _ q1 q2 hlim h1 p2 p4 _ ?_
        simp only [go_sem, Nat.reduceAdd, Nat.reduceEqDiff, reduceIte]
        refine AIf_intro (fun hb => ?_) (fun hb => ?_) <;> simp only [hb, go_sem, Nat.reduceAdd, Nat.reduceEqDiff, reduceIte]
        · refine gg _ ?_
          simp only [hb, Bool.or_true]
        · refine gg _ ?_
          simp only [hb, Bool.or_false]
      · simp only [f1, f2, hi0, go_sem, Nat.reduceAdd, Nat.reduceEqDiff, reduceIte]
        refine aw_drawn st67_10 mixed (by kernel_rfl) ?_
        simp only [hi0, HH.hv' hdn, HH.hr' hdn, hd, ha, bnd hdn, bnd han, hdl, hal, toNatC, go_sem, Nat.reduceAdd, Nat.reduceEqDiff, reduceIte]
        refine run64 _ _ c.W _ _ _ _ hrl hra hlim hh e2 a2 _ ?_
        simp only [hg1, go_sem, Nat.reduceAdd, Nat.reduceEqDiff, reduceIte]
        have gg := go _ _ H1 r1 hx1 hG1
        obtain ⟨p1, p2⟩ := H1.getO hdn
        obtain ⟨p3, p4⟩ := H1.getO hbn
        have q1 := WF.len H1.wf hdn
        have q2 := WF.len H1.wf hbn
        generalize hh.set (c.ors.getD d 0) (some (rowObj (rowJoin (st.regs.getD d []) (st.regs.getD a [])))) = h1 at H1 r1 hx1 gg p2 p4
        refine aw_drawn st67_11 mixed (by kernel_rfl) ?_
        simp only [hx1, H1.hv' hdn, H1.hr' hdn, hd, hbb, bnd hdn, bnd hbn, hdl, hbl, toNatC, go_sem, Nat.reduceAdd, Nat.reduceEqDiff, reduceIte]
        refine run64 _ _ c.W _ _ _ _ q1 q2 hlim h1 p2 p4 _ ?_
        simp only [go_sem, Nat.reduceAdd, Nat.reduceEqDiff, reduceIte]
        refine AIf_intro (fun hb => ?_) (fun hb => ?_) <;> simp only [hb, go_sem, Nat.reduceAdd, Nat.reduceEqDiff, reduceIte]
        · refine gg _ ?_
          simp only [hb, Bool.or_true]
        · refine gg _ ?_
          simp only [hb, Bool.or_false]
    · have f1 : decide (i.fn = 1) = false := by simp; omega
      have f2 : decide (i.fn = 2) = false := by simp; omega
      simp only [h3, decide_true, decide_false, Int.reduceEq, hi0, f1, f2, go_sem, Nat.reduceAdd, Nat.reduceEqDiff, reduceIte]
      exact fin hh st false HH .refl (.refl hwf) fun _ => insC3 h3 fun x => absurd x hfn
  by_cases h5 : i.op = 5
  · obtain ⟨hd1, hd2⟩ := hb.d (by omega) (by omega) (by omega) (by omega)
    obtain ⟨d, hd, hdn⟩ := reg _ hd1 hd2
    obtain ⟨e1, e2⟩ := HH.getO hdn
    have hdl : d < c.ors.length := by rw [HH.len]; exact hdn
    have hrl := WF.len hwf hdn
    by_cases hs4 : i.size = 4
    · have hG : Good m c.p c.n c.W st _ _ := Good.joinO hwf hdn fun s hs t ht => by
        have := (clo s hs).load h5 hs4 t
        rw [hd] at this
        exact this ht
      have hout := hwf.out
      have hfin := fin _ _ _ (HH.setReg hdn (row := rowJoin (st.regs.getD d []) st.out) (by rw [rowJoin_length (by omega), hrl])) (RU.row (.inr (List.mem_of_getElem? e1))) hG fun hf => insC5 h5 fun _ => by
        rw [hd]; exact joinO_fix hwf hdn (ofDN hf)
      simp only [h5, decide_true, decide_false, Int.reduceEq, hi0, go_sem, Nat.reduceAdd, Nat.reduceEqDiff, reduceIte]
      refine aw_drawn st67_13 mixed (by kernel_rfl) ?_
      simp only [hs4, decide_true, decide_false, hi0, HH.hv' hdn, HH.hr' hdn, hd, bnd hdn, hdl, toNatC, go_sem, Nat.reduceAdd, Nat.reduceEqDiff, reduceIte]
      refine run64 _ _ c.W _ _ _ _ hrl hout hlim hh e2 HH.ho _ ?_
      simp only [hs4, decide_true, decide_false, go_sem, Nat.reduceAdd, Nat.reduceEqDiff, reduceIte]
      exact hfin
    · have f4 : decide (i.size = 4) = false := by simp [hs4]
      simp only [h5, decide_true, decide_false, Int.reduceEq, hi0, go_sem, Nat.reduceAdd, Nat.reduceEqDiff, reduceIte]
      refine aw_drawn st67_13 mixed (by kernel_rfl) ?_
      simp only [f4, hi0, go_sem, Nat.reduceAdd, Nat.reduceEqDiff, reduceIte]
      exact fin hh st false HH .refl (.refl hwf) fun _ => insC5 h5 fun x => absurd x hs4
  by_cases h6 : i.op = 6
  · obtain ⟨hb1, hb2⟩ := hb.b (by simp [rdB, h6])
    obtain ⟨bb, hbb, hbn⟩ := reg _ hb1 hb2
    have hrl := WF.len hwf hbn
    by_cases hs4 : i.size = 4
    · have hG : Good m c.p c.n c.W st _ _ := Good.let_ hwf hbn fun s hs t ht => by
        have := (clo s hs).store h6 hs4 t
        rw [hbb] at this
        exact this ht
      have hout := hwf.out
      have hfin := fin _ _ _ (HH.setOut (row := rowJoin st.out (st.regs.getD bb [])) (by rw [rowJoin_length (by omega), hout])) (RU.row (.inl rfl)) hG fun hf => insC6 h6 fun _ => by
        rw [hbb]; exact let_fix hwf hbn (ofDN hf)
      simp only [h6, hs4, decide_true, decide_false, Int.reduceEq, hi0, hbb, go_sem, Nat.reduceAdd, Nat.reduceEqDiff, reduceIte]
      refine run121 c st sp bb hbn hlim hh HH _ ?_
      simp only [decide_true, decide_false, go_sem, Nat.reduceAdd, Nat.reduceEqDiff, reduceIte]
      exact hfin
    · have f4 : decide (i.size = 4) = false := by simp [hs4]
      simp only [h6, decide_true, decide_false, Int.reduceEq, hi0, f4, go_sem, Nat.reduceAdd, Nat.reduceEqDiff, reduceIte]
      exact fin hh st false HH .refl (.refl hwf) fun _ => insC6 h6 fun x => absurd x hs4
  by_cases h9 : i.op = 9
  · have hargs := hb.args h9
    have hret := hb.ret h9
    have hal := hl.args
    unfold Len at hal
    simp only [h9, decide_true, decide_false, Int.reduceEq, hi0, go_sem, Nat.reduceAdd, Nat.reduceEqDiff, reduceIte]
    refine aLoop_nat [0, 3, 6, 126, 127, 128] i.args.length (fun k vs h1 => ∃ st1 g1, VH c h1 st1 sp ∧ RU c hh h1 ∧ Good m c.p c.n c.W st st1 g1 ∧ (g1 = false → ∀ r ∈ i.args.take k, ∀ t, st.sets.R r.toNat t → st.sets.O t) ∧
      vs = [.ptr c.v 10 0 0 [], .ptr h.length 11 0 0 [], B g1, .il 1 (i.args.map I), I i.args.length, I k]) ?_ ?_
    · simp only [go_sem, Nat.reduceAdd, Nat.reduceEqDiff, reduceIte]
      exact ⟨st, false, HH, .refl, .refl hwf, fun _ r hr => by simp at hr, rfl⟩
    · rintro k vs h1 hk - ⟨st1, g1, H1, r1, hG1, hc1, rfl⟩ I' μ m' hnx
      simp only [ltI, go_sem, Nat.reduceAdd, Nat.reduceEqDiff, reduceIte]
      refine AIf_intro (fun hlt => ?_) (fun hge => ?_)
      · simp only [decide_eq_true_eq] at hlt
        obtain ⟨q1, q2⟩ := hargs _ (List.getElem_mem hlt)
        obtain ⟨a, ha, han⟩ := reg _ q1 q2
        have hgd := getD_map I i.args hlt
        rw [ha] at hgd
        simp only [bnd hlt, hgd, toNatC, go_sem, Nat.reduceAdd, Nat.reduceEqDiff, reduceIte]
        refine run121 c st1 sp a han hlim h1 H1 _ ?_
        have hw1 := H1.wf
        have hG2 : Good m c.p c.n c.W st1 _ _ := Good.let_ hw1 han fun s hs t ht => by
          have := (clo s hs).args h9 _ (List.getElem_mem hlt) t
          rw [ha] at this
          exact this ht
        have hrl := WF.len hw1 han
        have H2 := H1.setOut (row := rowJoin st1.out (st1.regs.getD a [])) (by rw [rowJoin_length (by rw [hrl, hw1.out]), hw1.out])
        have r2 := r1.trans (RU.row (ws := rowJoin st1.out (st1.regs.getD a [])) (.inl rfl))
        have hcl : g1 = false → decide (rowJoin st1.out (st1.regs.getD a []) ≠ st1.out) = false → ∀ r ∈ i.args.take (k + 1), ∀ t, st.sets.R r.toNat t → st.sets.O t := by
          intro e1 e2 r hr
          rw [List.take_succ_eq_append_getElem hlt] at hr
          rcases List.mem_append.1 hr with hr | hr
          · exact hc1 e1 r hr
          · simp at hr
            have e3 := hG1.eq e1
            subst e3
            rw [hr, ha]
            exact let_fix hwf han (ofDN e2)
        simp only [go_sem, Nat.reduceAdd, Nat.reduceEqDiff, reduceIte]
        refine AIf_intro (fun hb => ?_) (fun hb => ?_) <;> simp only [hb, inc64 hlt hal, go_sem, Nat.reduceAdd, Nat.reduceEqDiff, reduceIte]
        · refine hnx _ _ hlt ⟨_, true, H2, r2, hG1.trans hG2 (g := true) (by rw [hb]; simp), fun e => absurd e (by simp), rfl⟩
        · refine hnx _ _ hlt ⟨_, g1, H2, r2, hG1.trans hG2 (g := g1) (by rw [hb]; simp), fun e => hcl e hb, rfl⟩
      · simp only [decide_eq_false_iff_not] at hge
        have hkk : k = i.args.length := by omega
        subst hkk
        rw [List.take_length] at hc1
        have hx1 := hbx _ r1
        have hw1 := H1.wf
        have hge' : decide (i.args.length < i.args.length) = false := by simp
        simp only [hge', hx1, go_sem, Nat.reduceAdd, Nat.reduceEqDiff, reduceIte]
        refine AIf_intro (fun hdm => ?_) (fun hdm => ?_)
        · have hdm' : i.d = -1 := by simpa using hdm
          simp only [hdm, go_sem, Nat.reduceAdd, Nat.reduceEqDiff, reduceIte]
          exact fin _ st1 g1 H1 r1 hG1 fun e => insC9 h9 (hc1 e) fun x => absurd hdm' x
        · have hdm' : ¬ i.d = -1 := by simpa using hdm
          obtain ⟨d, hd, hdn⟩ := reg i.d (by omega) (by omega)
          obtain ⟨e1, e2⟩ := H1.getO hdn
          have hdl : d < c.ors.length := by rw [H1.len]; exact hdn
          have hrl := WF.len hw1 hdn
          have hout := hw1.out
          have hG2 : Good m c.p c.n c.W st1 _ _ := Good.joinO hw1 hdn fun s hs t ht => by
            have := (clo s hs).call h9 hdm' t
            rw [hd] at this
            exact this ht
          have hfin : ∀ g2, g2 = (g1 || decide (rowJoin (st1.regs.getD d []) st1.out ≠ st1.regs.getD d [])) → WRet h K (B g2) _ := fun g2 hg2 => by
            subst hg2
            refine fin _ _ _ (H1.setReg hdn (row := rowJoin (st1.regs.getD d []) st1.out) (by rw [rowJoin_length (by omega), hrl])) (r1.trans (RU.row (.inr (List.mem_of_getElem? e1)))) (hG1.trans hG2 rfl) fun hf => ?_
            simp only [Bool.or_eq_false_iff] at hf
            have e3 := hG1.eq hf.1
            subst e3
            exact insC9 h9 (hc1 hf.1) fun _ => by rw [hd]; exact joinO_fix hwf hdn (ofDN hf.2)
          simp only [hdm, go_sem, Nat.reduceAdd, Nat.reduceEqDiff, reduceIte]
          refine aw_drawn st67_24 mixed (by kernel_rfl) ?_
          simp only [hx1, H1.hv' hdn, H1.hr' hdn, hd, bnd hdn, hdl, toNatC, go_sem, Nat.reduceAdd, Nat.reduceEqDiff, reduceIte]
          refine run64 _ _ c.W _ _ _ _ hrl hout hlim h1 e2 H1.ho _ ?_
          simp only [go_sem, Nat.reduceAdd, Nat.reduceEqDiff, reduceIte]
          refine AIf_intro (fun hb => ?_) (fun hb => ?_) <;> simp only [hb, go_sem, Nat.reduceAdd, Nat.reduceEqDiff, reduceIte]
          · exact hfin _ (by simp only [hb, Bool.or_true])
          · exact hfin _ (by simp only [hb, Bool.or_false])
  have d7 : decide (i.op = 7) = false := by simp; omega
  have d8 : decide (i.op = 8) = false := by simp; omega
  have d2 : decide (i.op = 2) = false := by simp; omega
  have d3 : decide (i.op = 3) = false := by simp; omega
  have d5 : decide (i.op = 5) = false := by simp; omega
  have d6 : decide (i.op = 6) = false := by simp; omega
  have d9 : decide (i.op = 9) = false := by simp; omega
  simp only [d7, d8, d2, d3, d5, d6, d9, hi0, go_sem, Nat.reduceAdd, Nat.reduceEqDiff, reduceIte]
  exact fin hh st false HH .refl (.refl hwf) fun _ => insC0 (by omega)
end Go.Am

set_option maxRecDepth 100000
set_option maxHeartbeats 1000000
set_option linter.unusedSimpArgs false
set_option linter.unusedVariables false
namespace Go.Am
open Go Go.Proofs
inductive AEv where
  | ins (i : MIns)
  | ret (a : Int)
def retEv (b : MBlk) : List AEv := if b.kind = 3 ∧ b.a ≠ -1 then [.ret b.a] else []
def blkEv (b : MBlk) : List AEv := b.ins.map .ins ++ retEv b
def evsOf (l : List MBlk) : List AEv := l.flatMap blkEv
abbrev SS := VSt × List Spot
inductive Steps (E : AEv → SS → SS → Bool → Prop) : List AEv → SS → SS → Bool → Prop
  | nil (s : SS) : Steps E [] s s false
  | snoc {l e s s1 s2 g1 g2 g} (h : Steps E l s s1 g1) (h2 : E e s1 s2 g2) (hg : g = (g2 || g1)) : Steps E (l ++ [e]) s s2 g
/-- a heap, whose rows and spots are others, and more -/
def RX (c : VC) (h hh : Heap) : Prop := ∃ h1 g, hh = h1 ++ g ∧ RU c h h1
theorem RX.refl {c h} : RX c h h := ⟨h, [], by simp, .refl⟩
theorem RX.app {c h hh g} (x : RX c h hh) : RX c h (hh ++ g) := by
  obtain ⟨h1, g1, rfl, r⟩ := x
  exact ⟨h1, g1 ++ g, by simp, r⟩
theorem RX.step {c h hh hh'} {st sp} (H : VH c h st sp) (x : RX c h hh) (r : RU c hh hh') : RX c h hh' := by
  obtain ⟨h1, g1, rfl, r1⟩ := x
  have hl := r.len
  rw [List.length_append, r1.len] at hl
  refine ⟨hh'.take h.length, hh'.drop h.length, by rw [List.take_append_drop], ⟨by rw [List.length_take]; omega, fun o => ?_⟩⟩
  by_cases ho : o < h.length
  · rw [List.getElem?_take, if_pos ho]
    rcases r.obj o with e | e | e
    · rw [e, List.getElem?_append_left (by rw [r1.len]; exact ho)]; exact r1.obj o
    · exact .inr (.inl e)
    · exact .inr (.inr e)
  · rw [List.getElem?_take, if_neg ho, List.getElem?_eq_none (by omega)]; exact .inl rfl
theorem VH.unapp {c : VC} {h h1 g : Heap} {st st' sp sp'} (H : VH c h st sp) (hl : h1.length = h.length) (H' : VH c (h1 ++ g) st' sp') : VH c h1 st' sp' := by
  obtain ⟨b1, b2, b3, b4, b5⟩ := H.below
  have un : ∀ {o : Nat} {x}, (h1 ++ g)[o]? = some x → o < h.length → h1[o]? = some x := fun ho hlo => by rwa [List.getElem?_append_left (by omega)] at ho
  exact { H' with hv := un H'.hv b1, hr := fun hn => un (H'.hr hn) (b2 hn), ho := un H'.ho b3, hs := un H'.hs b4, hw := fun i o e => un (H'.hw i o e) (b5 o (List.mem_of_getElem? e)) }
theorem RX.len {c h hh} (x : RX c h hh) : h.length ≤ hh.length := by
  obtain ⟨h1, g1, rfl, r1⟩ := x
  rw [List.length_append, r1.len]; omega
/-- what an end lets out -/
def letS (s : SS) (r : Nat) : SS := ({ s.1 with out := rowJoin s.1.out (s.1.regs.getD r []) }, s.2)
def letG (s : SS) (r : Nat) : Bool := decide (rowJoin s.1.out (s.1.regs.getD r []) ≠ s.1.out)
theorem evsOf_take {l : List MBlk} {k : Nat} (h : k < l.length) : evsOf (l.take (k + 1)) = evsOf (l.take k) ++ blkEv l[k] := by
  rw [List.take_succ_eq_append_getElem h]; simp only [evsOf, List.flatMap_append, List.flatMap_cons, List.flatMap_nil, List.append_nil]
theorem run65 (m : MMod) (c : VC) (ok : VOk m c) (pb : ProcB c.p m) (pl : c.p.Lens) (f : Nat) (E : AEv → SS → SS → Bool → Prop) (s0 : SS) (h : Heap) (H : VH c h s0.1 s0.2)
    (hdo : ∀ l b i, b ∈ c.p.blocks → i ∈ b.ins → (∃ rest, evsOf c.p.blocks = l ++ .ins i :: rest) → ∀ s g0 hh, Steps E l s0 s g0 → VH c hh s.1 s.2 → ∀ K,
      (∀ h' s' g, VH c h' s'.1 s'.2 → RU c hh h' → E (.ins i) s s' g → K (B g) h') → RunsK Try.prog f [.ptr c.v 10 0 0 [], i.enc] hh K)
    (hlet : ∀ b r, b ∈ c.p.blocks → b.kind = 3 → b.a = (r : Nat) → r < c.n → ∀ s, s.1.WF c.n c.W → E (.ret b.a) s (letS s r) (letG s r)) (K)
    (hK : ∀ h' s' g, VH c h' s'.1 s'.2 → RU c h h' → Steps E (evsOf c.p.blocks) s0 s' g → K (B g) h') : RunsK Try.prog 65 [.ptr c.v 10 0 0 [], .fn (.func f) [.ptr c.v 10 0 0 []] []] h K := by
  refine RunsK.intro Try.func65 rfl (by decide) (by simp only [Try.f65, go_sem]; decide) ?_
  simp only [Try.f65]
  have hlb := pl.blocks
  unfold Len at hlb
  simp only [H.hv, go_sem, Nat.reduceAdd, Nat.reduceEqDiff, reduceIte]
  refine aLoop_nat [0, 1, 5, 14, 15, 16] c.p.blocks.length (fun k vs hh => ∃ s g, VH c hh s.1 s.2 ∧ RX c h hh ∧ Steps E (evsOf (c.p.blocks.take k)) s0 s g ∧
    vs = [.ptr c.v 10 0 0 [], .fn (.func f) [.ptr c.v 10 0 0 []] [], B g, .il 5 (c.p.blocks.map MBlk.enc), I c.p.blocks.length, I k]) ?_ ?_
  · simp only [go_sem, Nat.reduceAdd, Nat.reduceEqDiff, reduceIte]
    exact ⟨s0, false, H, .refl, .nil s0, rfl⟩
  · rintro k vs hh hk - ⟨s, g, HH, hx, hst, rfl⟩ I' μ m' hnx
    simp only [ltI, go_sem, Nat.reduceAdd, Nat.reduceEqDiff, reduceIte]
    refine AIf_intro (fun hlt => ?_) (fun hge => ?_)
    · simp only [decide_eq_true_eq] at hlt
      have hgd := getD_map MBlk.enc c.p.blocks hlt
      have hbm := List.getElem_mem hlt
      have hev := evsOf_take hlt
      have hsplit : evsOf c.p.blocks = evsOf (c.p.blocks.take k) ++ blkEv c.p.blocks[k] ++ evsOf (c.p.blocks.drop (k + 1)) := by
        conv => lhs; rw [← List.take_append_drop (k + 1) c.p.blocks]
        rw [← hev]; simp only [evsOf, List.flatMap_append]
      generalize c.p.blocks[k] = b at hgd hbm hev hsplit
      have hbl := pl.each b hbm
      have hil := hbl.ins
      unfold Len at hil
      simp only [bnd hlt, hgd, toNatC, go_sem, Nat.reduceAdd, Nat.reduceEqDiff, reduceIte]
      obtain ⟨h1, hh1⟩ : ∃ h1, h1 = hh ++ [some (AObj.arr 35 5 [b.enc])] := ⟨_, rfl⟩
      have hb1 : h1[hh.length]? = some (some (AObj.arr 35 5 [b.enc])) := by rw [hh1]; simp
      have H1 : VH c h1 s.1 s.2 := hh1 ▸ HH.app
      have hx1 : RX c h h1 := hh1 ▸ hx.app
      have hlen1 : hh.length < h1.length := lt_of hb1
      have hlx := hx.len
      rw [← hh1]
      refine aLoop_nat [0, 1, 5, 7, 14, 15, 16, 21, 22, 23] b.ins.length (fun j vs h2 => ∃ s g, VH c h2 s.1 s.2 ∧ RX c h h2 ∧ h2[hh.length]? = some (some (AObj.arr 35 5 [b.enc])) ∧ Steps E (evsOf (c.p.blocks.take k) ++ (b.ins.take j).map .ins) s0 s g ∧
        vs = [.ptr c.v 10 0 0 [], .fn (.func f) [.ptr c.v 10 0 0 []] [], B g, .ptr hh.length 5 0 0 [], .il 5 (c.p.blocks.map MBlk.enc), I c.p.blocks.length, I k, .il 11 (b.ins.map MIns.enc), I b.ins.length, I j]) ?_ ?_
      · simp only [go_sem, Nat.reduceAdd, Nat.reduceEqDiff, reduceIte]
        exact ⟨s, g, H1, hx1, hb1, by simpa using hst, rfl⟩
      · rintro j vs h2 hj - ⟨s2, g2, H2, hx2, hb2, hst2, rfl⟩ I2 μ2 m2 hnx2
        simp only [ltI, go_sem, Nat.reduceAdd, Nat.reduceEqDiff, reduceIte]
        refine AIf_intro (fun hlt2 => ?_) (fun hge2 => ?_)
        · simp only [decide_eq_true_eq] at hlt2
          have hgd2 := getD_map MIns.enc b.ins hlt2
          have him := List.getElem_mem hlt2
          have htk : (b.ins.take (j + 1)).map AEv.ins = (b.ins.take j).map AEv.ins ++ [.ins b.ins[j]] := by rw [List.take_succ_eq_append_getElem hlt2, List.map_append]; rfl
          have hsp2 : ∃ rest, evsOf c.p.blocks = (evsOf (c.p.blocks.take k) ++ (b.ins.take j).map .ins) ++ .ins b.ins[j] :: rest := by
            refine ⟨(b.ins.drop (j + 1)).map .ins ++ retEv b ++ evsOf (c.p.blocks.drop (k + 1)), ?_⟩
            have e : b.ins.map AEv.ins = (b.ins.take j).map .ins ++ (.ins b.ins[j] :: (b.ins.drop (j + 1)).map .ins) := by
              rw [← List.map_cons, ← List.drop_eq_getElem_cons hlt2, ← List.map_append, List.take_append_drop]
            rw [hsplit, blkEv, e]
            simp only [List.append_assoc, List.cons_append]
          generalize b.ins[j] = i at hgd2 him htk hsp2
          simp only [bnd hlt2, hgd2, toNatC, go_sem, Nat.reduceAdd, Nat.reduceEqDiff, reduceIte]
          have H3 : VH c (h2 ++ [some (AObj.arr 39 11 [i.enc])]) s2.1 s2.2 := H2.app
          have hx3 : RX c h (h2 ++ [some (AObj.arr 39 11 [i.enc])]) := hx2.app
          have hb3 : (h2 ++ [some (AObj.arr 39 11 [i.enc])])[hh.length]? = some (some (AObj.arr 35 5 [b.enc])) := by rw [List.getElem?_append_left (lt_of hb2)]; exact hb2
          refine hdo _ b i hbm him hsp2 s2 g2 _ hst2 H3 _ fun h4 s4 g4 H4 r4 e4 => ?_
          have hx4 : RX c h h4 := hx3.step H r4
          have hb4 : h4[hh.length]? = some (some (AObj.arr 35 5 [b.enc])) := by rw [r4.keep H hlx]; exact hb3
          simp only [go_sem, Nat.reduceAdd, Nat.reduceEqDiff, reduceIte]
          refine AIf_intro (fun hb => ?_) (fun hb => ?_) <;> simp only [hb, inc64 hlt2 hil, go_sem, Nat.reduceAdd, Nat.reduceEqDiff, reduceIte]
          · refine hnx2 _ _ hlt2 ⟨s4, true, H4, hx4, hb4, ?_, rfl⟩
            rw [htk, ← List.append_assoc]
            exact hst2.snoc e4 (by rw [hb]; rfl)
          · refine hnx2 _ _ hlt2 ⟨s4, g2, H4, hx4, hb4, ?_, rfl⟩
            rw [htk, ← List.append_assoc]
            exact hst2.snoc e4 (by rw [hb]; rfl)
        · simp only [decide_eq_false_iff_not] at hge2
          have hkk : j = b.ins.length := by omega
          subst hkk
          rw [List.take_length] at hst2
          have hge' : decide (b.ins.length < b.ins.length) = false := by simp
          have plain : retEv b = [] → (I' [.ptr c.v 10 0 0 [], .fn (.func f) [.ptr c.v 10 0 0 []] [], B g2, .il 5 (c.p.blocks.map MBlk.enc), I c.p.blocks.length, I (k + 1 : Nat)] h2 ∧ μ [.ptr c.v 10 0 0 [], .fn (.func f) [.ptr c.v 10 0 0 []] [], B g2, .il 5 (c.p.blocks.map MBlk.enc), I c.p.blocks.length, I (k + 1 : Nat)] h2 < m') := by
            intro e
            refine hnx _ _ hlt ⟨s2, g2, H2, hx2, ?_, rfl⟩
            rw [hev, blkEv, e]
            simpa using hst2
          simp only [hge', hb2, go_sem, Nat.reduceAdd, Nat.reduceEqDiff, reduceIte]
          refine AIf_intro (fun hk3 => ?_) (fun hk3 => ?_)
          · have hk3' : b.kind = 3 := by simpa using hk3
            simp only [hk3, hb2, go_sem, Nat.reduceAdd, Nat.reduceEqDiff, reduceIte]
            refine AIf_intro (fun ha => ?_) (fun ha => ?_)
            · have ha' : b.a = -1 := by simpa using ha
              simp only [ha, inc64 hlt hlb, go_sem, Nat.reduceAdd, Nat.reduceEqDiff, reduceIte]
              exact plain (by rw [retEv, if_neg (by simp [ha'])])
            · have ha' : ¬ b.a = -1 := by simpa using ha
              obtain ⟨q1, q2⟩ := ((pb.ends b hbm).ret hk3').1.resolve_left ha'
              have hnn := ok.n
              obtain ⟨r, hr, hrn⟩ : ∃ r : Nat, b.a = r ∧ r < c.n := ⟨b.a.toNat, by omega, by omega⟩
              have he := hlet b r hbm hk3' hr hrn s2 H2.wf
              have hre : retEv b = [.ret b.a] := by rw [retEv, if_pos ⟨hk3', ha'⟩]
              simp only [ha, hb2, hr, go_sem, Nat.reduceAdd, Nat.reduceEqDiff, reduceIte]
              have hrl := WF.len H2.wf hrn
              have H5 := H2.setOut (row := rowJoin s2.1.out (s2.1.regs.getD r [])) (by rw [rowJoin_length (by rw [hrl, H2.wf.out]), H2.wf.out])
              have r5 : RU c h2 _ := RU.row (ws := rowJoin s2.1.out (s2.1.regs.getD r [])) (.inl rfl)
              have hx5 := hx2.step H r5
              have hg5 : decide (rowJoin s2.1.out (s2.1.regs.getD r []) ≠ s2.1.out) = letG s2 r := rfl
              refine run121 c s2.1 s2.2 r hrn ok.lim h2 H2 _ ?_
              simp only [hg5, go_sem, Nat.reduceAdd, Nat.reduceEqDiff, reduceIte]
              refine AIf_intro (fun hb => ?_) (fun hb => ?_) <;> simp only [hb, inc64 hlt hlb, go_sem, Nat.reduceAdd, Nat.reduceEqDiff, reduceIte]
              · refine hnx _ _ hlt ⟨letS s2 r, true, H5, hx5, ?_, rfl⟩
                rw [hev, blkEv, hre, ← List.append_assoc]
                exact hst2.snoc he (by rw [hb]; rfl)
              · refine hnx _ _ hlt ⟨letS s2 r, g2, H5, hx5, ?_, rfl⟩
                rw [hev, blkEv, hre, ← List.append_assoc]
                exact hst2.snoc he (by rw [hb]; rfl)
          · have hk3' : ¬ b.kind = 3 := by simpa using hk3
            simp only [hk3, inc64 hlt hlb, go_sem, Nat.reduceAdd, Nat.reduceEqDiff, reduceIte]
            exact plain (by rw [retEv, if_neg (by simp [hk3'])])
    · simp only [decide_eq_false_iff_not] at hge
      have hkk : k = c.p.blocks.length := by omega
      subst hkk
      rw [List.take_length] at hst
      have hge' : decide (c.p.blocks.length < c.p.blocks.length) = false := by simp
      simp only [hge', go_sem, Nat.reduceAdd, Nat.reduceEqDiff, reduceIte]
      obtain ⟨h1, g1, rfl, r1⟩ := hx
      exact WRet.hs r1.hs (hK h1 s g (H.unapp r1.len HH) r1 hst)
end Go.Am
