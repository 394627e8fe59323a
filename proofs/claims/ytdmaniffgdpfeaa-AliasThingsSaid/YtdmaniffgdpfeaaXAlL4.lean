/- A part of the proof that AliasThings and AliasMeets return true for every module: texts on an abstract reading of the code (AlL4). -/
import Derived.Test.YtdmaniffgdpfeaaXAlR8
import Derived.Test.YtdmaniffgdpfeaaXAlP1
import Derived.Test.YtdmaniffgdpfeaaXEv21
set_option linter.unusedVariables false
set_option linter.unusedSimpArgs false
set_option linter.unusedSectionVars false
set_option maxRecDepth 100000
set_option maxHeartbeats 1000000
set_option linter.unusedSimpArgs false
set_option linter.unusedVariables false
namespace Go.Am
open Go Go.Proofs
theorem err0 : ∀ n : Int, (0 : Int) = n → n = 0 := fun _ h => h.symm
theorem RightB.pget {m : MMod} {n : Int} {p : MProc} (h : RightB m n p) : ∃ k : Nat, n = k ∧ ∃ hk : k < m.procs.length, m.procs[k] = p := by
  have hb := h.nb
  refine ⟨n.toNat, by omega, by omega, ?_⟩
  have := h.get
  rw [List.getElem?_eq_some_iff] at this
  exact this.2
theorem zmod {S : Nat → Prop} {h : Heap} : FrzS S h (.agg [.val (.slice none 0 0), .val (.slice none 0 0), .val (.slice none 0 0), .val (.int .i64 0)]) (MMod.mk [] [] [] 0).enc := by
  refine .agg _ _ rfl fun i x y h1 h2 => ?_
  match i with
  | 0 => cases h1; cases h2; exact .nil 4
  | 1 => cases h1; cases h2; exact .nil 1
  | 2 => cases h1; cases h2; exact .nil 6
  | 3 => cases h1; cases h2; exact .pure _
  | i + 4 => cases h1
theorem frzH0 {h : Heap} : FrzH (fun _ => False) h h := ⟨rfl, fun _ hf => hf.elim, fun o ob ho => ⟨ob, ho, .same _⟩, fun _ _ e => e⟩
theorem run4 (m : MMod) (hl : m.Lens) (n : Int) (h : Heap) (K) (hK : K (B true) h) : RunsK Try.prog 4 [m.enc, I n] h K := by
  refine RunsK.intro Try.func4 rfl (by decide) (by simp only [Try.f4, go_sem]; decide) ?_ <;> simp only [Try.f4]
  have z0 : ((0 : Nat) : Int) = 0 := rfl
  simp only [go_sem, Nat.reduceAdd, Nat.reduceMul, Nat.reduceEqDiff, Nat.reduceLeDiff, List.range_zero, List.drop_zero, List.nil_append, reduceIte]
  refine run15 m hl n _ _ ?_
  simp only [go_sem, Nat.reduceAdd, Nat.reduceMul, Nat.reduceEqDiff, Nat.reduceLeDiff, List.range_zero, List.drop_zero, List.nil_append, reduceIte]
  cases hr : m.right n with
  | false =>
    simp only [go_sem, Nat.reduceAdd, Nat.reduceMul, Nat.reduceEqDiff, Nat.reduceLeDiff, List.range_zero, List.drop_zero, List.nil_append, reduceIte]
    refine RunsK.frz (.cons zmod (.cons (.pure _) .nil)) frzH0 ?_
    refine run17_bad _ n (by rcases Int.lt_or_le n 0 with hh | hh; exact .inl hh; exact .inr hh) _ _ ?_
    simp only [go_sem, Nat.reduceAdd, Nat.reduceMul, Nat.reduceEqDiff, Nat.reduceLeDiff, List.range_zero, List.drop_zero, List.nil_append, reduceIte]
    refine RunsK.test 300 (by kernel_rfl) noNum eval21 ?_
    simp only [decide_true, z0, go_sem, Nat.reduceAdd, Nat.reduceMul, Nat.reduceEqDiff, Nat.reduceLeDiff, List.range_zero, List.drop_zero, List.nil_append, reduceIte]
    refine run21n 0 _ _ ?_
    simp only [decide_true, z0, go_sem, Nat.reduceAdd, Nat.reduceMul, Nat.reduceEqDiff, Nat.reduceLeDiff, List.range_zero, List.drop_zero, List.nil_append, reduceIte]
    refine run22n _ _ ?_
    simp only [decide_true, z0, go_sem, Nat.reduceAdd, Nat.reduceMul, Nat.reduceEqDiff, Nat.reduceLeDiff, List.range_zero, List.drop_zero, List.nil_append, reduceIte]
    exact WRet.bool .mk hK rfl
  | true =>
  obtain ⟨p, rb⟩ := RightB.of hr
  obtain ⟨j, rfl, hjl, hjp⟩ := rb.pget
  subst hjp
  have pl := hl.each _ (List.getElem_mem hjl)
  have pb := rb.proc
  have hgl := rb.mod.globals
  have hgd := getD_map MProc.enc m.procs hjl
  have hreg := rb.regs
  have hpar := pb.params
  simp only [bnd hjl, hgd, toNatC, go_sem, Nat.reduceAdd, Nat.reduceMul, Nat.reduceEqDiff, Nat.reduceLeDiff, List.range_zero, List.drop_zero, List.nil_append, reduceIte]
  refine run17 m j hjl pb pl hgl _ _ ?_
  intro v vd
  generalize m.procs[j] = p at *
  simp only [decide_true, z0, go_sem, Nat.reduceAdd, Nat.reduceMul, Nat.reduceEqDiff, Nat.reduceLeDiff, List.range_zero, List.drop_zero, List.nil_append, reduceIte]
  refine run18 m p pb pl hgl _ _ ?_
  intro st bd
  obtain ⟨k, hk⟩ : ∃ k : Nat, p.regs = k := ⟨p.regs.toNat, by omega⟩
  rw [hk] at vd bd
  rw [toNatC] at vd bd
  have hTb : p.top m < 1099511627776 := by have := pb.objects; unfold MProc.top; omega
  have hvT : v.T = p.top m := vd.hT
  have hvl : v.st.regs.length = k := vd.wf.regs
  have hspl : v.sp.length = v.st.regs.length := by rw [vd.sp, foldEv, foldSp_len, spk_len, hvl]
  have hwf : v.st.WF v.st.regs.length ((p.top m + 63) / 64) := by rw [hvl]; exact vd.wf
  have hbl : st.regs.length = k := bd.wf.regs
  obtain ⟨h2, hh2⟩ : ∃ h2, h2 = h ++ [some (AObj.arr 26 4 [m.enc]), some (AObj.arr 32 6 [p.enc]), some (AObj.arr 47 2 [st.enc])] := ⟨_, rfl⟩
  have h2l : h2.length = h.length + 3 := by rw [hh2]; simp
  have hb2 : HB h h2 := by rw [hh2]; exact HB.refl.app
  have hp2 : h2[h.length + 1]? = some (some (AObj.arr 32 6 [p.enc])) := by rw [hh2]; simp only [go_sem, Nat.reduceAdd, Nat.reduceMul, Nat.reduceEqDiff, Nat.reduceLeDiff, List.range_zero, List.drop_zero, List.nil_append, reduceIte]
  have hs2 : h2[h.length + 2]? = some (some (AObj.arr 47 2 [st.enc])) := by rw [hh2]; simp only [go_sem, Nat.reduceAdd, Nat.reduceMul, Nat.reduceEqDiff, Nat.reduceLeDiff, List.range_zero, List.drop_zero, List.nil_append, reduceIte]
  have hflat : flat st.enc = [.il 1 (st.regs.map boolIl), boolIl st.out] := by simp only [BSt.enc, go_sem]
  have hsto : storable st.enc = true := by simp only [BSt.enc, go_sem]
  have hpart : partOk st.enc = true := by simp only [BSt.enc, go_sem]
  have hshape : shapeOk Try.prog 47 st.enc = True := by simp only [BSt.enc, go_sem, Nat.reduceAdd]
  have hsub0 : ∀ q, st.enc.sub (0 :: q) = AV.sub (.il 1 (st.regs.map boolIl)) q := fun q => rfl
  have hsub1 : ∀ q, st.enc.sub (1 :: q) = AV.sub (boolIl st.out) q := fun q => rfl
  have ho0 : st.enc.offs [0] = some 0 := by simp only [BSt.enc, go_sem]
  have ho1 : st.enc.offs [1] = some 1 := by simp only [BSt.enc, go_sem, Nat.reduceAdd]
  simp only [hflat, hsto, hpart, hshape, go_sem, Nat.reduceAdd, Nat.reduceMul, Nat.reduceEqDiff, Nat.reduceLeDiff, List.range_zero, List.drop_zero, List.nil_append, reduceIte]
  have hk63 : k < 9223372036854775808 := by omega
  have hmod : ∀ q : List AV, h ++ [some (AObj.arr 26 4 [m.enc]), some (AObj.arr 32 6 [p.enc]), some (AObj.arr 47 2 [st.enc])] = h2 := fun _ => hh2.symm
  refine aLoop_nat [7, 8, 10, 11] k (fun i vs hh => HB h2 hh ∧ vs = [.ptr (h.length + 1) 6 0 0 [], .iptr v.enc, .ptr (h.length + 2) 2 0 0 [], I i]) ?_ ?_
  · simp only [go_sem, Nat.reduceAdd, Nat.reduceMul, Nat.reduceEqDiff, Nat.reduceLeDiff, List.range_zero, List.drop_zero, List.nil_append, reduceIte]
    exact ⟨by rw [hh2]; exact .refl, rfl⟩
  · rintro i vs hh hki - ⟨hb, rfl⟩ I' μ m' hnx
    have hp := (hb.2 _ (by omega : h.length + 1 < h2.length)).trans hp2
    have hs := (hb.2 _ (by omega : h.length + 2 < h2.length)).trans hs2
    simp only [hp, hs, ltI, hk, go_sem, Nat.reduceAdd, Nat.reduceMul, Nat.reduceEqDiff, Nat.reduceLeDiff, List.range_zero, List.drop_zero, List.nil_append, reduceIte]
    refine AIf_intro (fun hlt => ?_) (fun hge => ?_)
    · simp only [decide_eq_true_eq] at hlt
      simp only [go_sem, Nat.reduceAdd, Nat.reduceMul, Nat.reduceEqDiff, Nat.reduceLeDiff, List.range_zero, List.drop_zero, List.nil_append, reduceIte]
      refine run23 v i hspl _ _ ?_
      have hex := vd.exact pb hk i
      rw [hex]
      simp only [hp, go_sem, Nat.reduceAdd, Nat.reduceMul, Nat.reduceEqDiff, Nat.reduceLeDiff, List.range_zero, List.drop_zero, List.nil_append, reduceIte]
      refine run24 m p pb pl hgl i _ _ ?_
      have hhl := hb.1
      generalize exactR p i = x
      have hE : x.enc3 = .agg [I x.thing, I x.off, B x.is] := rfl
      rw [hE]
      simp only [go_sem, Nat.reduceAdd, Nat.reduceMul, Nat.reduceEqDiff, Nat.reduceLeDiff, List.range_zero, List.drop_zero, List.nil_append, reduceIte]
      have hsg : ∀ g, (hh ++ g)[h.length + 2]? = some (some (AObj.arr 47 2 [st.enc])) := fun g => getApp hs
      have hbg : ∀ g, HB h2 (hh ++ g) := fun g => hb.app
      have hil : i < st.regs.length := by omega
      have gi := getD_map boolIl st.regs hil
      have hreg : v.reg i = true := by unfold AView.reg; simp; omega
      have hit := toNatC
      refine aw_drawn st4_14 mixed (by kernel_rfl) ?_
      simp only [hsg, hsub0, hsub1, ho0, ho1, bnd hil, gi, decide_true, Bool.not_true, go_sem, Nat.reduceAdd, Nat.reduceMul, Nat.reduceEqDiff, Nat.reduceLeDiff, List.range_zero, List.drop_zero, List.nil_append, reduceIte]
      refine run21 v i _ hwf (by omega) (by rw [hvT]) _ _ ?_
      rw [hreg, if_pos rfl, things_eq, toNatC]
      simp only [hsg, hsub0, hsub1, ho0, ho1, bnd hil, gi, decide_true, Bool.not_true, go_sem, Nat.reduceAdd, Nat.reduceMul, Nat.reduceEqDiff, Nat.reduceLeDiff, List.range_zero, List.drop_zero, List.nil_append, reduceIte]
      have htop : ∀ ws, (thingsI v.T ws).length < 9223372036854775808 := fun ws => by
        have := things_len (T := v.T) (ws := ws)
        rw [things_eq, List.length_map] at this
        omega
      have hrl : ∀ r ∈ st.regs, r.length = v.T := fun r hr => by rw [hvT]; exact bd.wf.row r hr
      have hri : risingB (thingsI v.T (v.st.regs.getD i [])) st.regs[i] = true := by
        refine rising_of (hrl _ (List.getElem_mem hil)) fun t _ => ?_
        rw [same_row vd bd i t, getD_eq hil]
      refine run25 _ _ (htop _) (by rw [hrl _ (List.getElem_mem hil)]; omega) _ _ ?_
      rw [hri]
      simp only [hsg, hsub0, hsub1, ho0, ho1, bnd hil, gi, decide_true, Bool.not_true, beq_self_eq_true, inc64 hlt hk63, go_sem, Nat.reduceAdd, Nat.reduceMul, Nat.reduceEqDiff, Nat.reduceLeDiff, List.range_zero, List.drop_zero, List.nil_append, reduceIte]
      exact hnx _ _ hlt ⟨hbg _, rfl⟩
    · simp only [decide_eq_false_iff_not] at hge
      have htop : ∀ ws, (thingsI v.T ws).length < 9223372036854775808 := fun ws => by
        have := things_len (T := v.T) (ws := ws)
        rw [things_eq, List.length_map] at this
        omega
      have hol : st.out.length = v.T := by rw [hvT]; exact bd.wf.out
      have hro : risingB (thingsI v.T v.st.out) st.out = true := rising_of hol fun t _ => same_out vd bd t
      have hrn : v.reg (-1) = false := rfl
      have hrk : v.reg p.regs = false := by unfold AView.reg; simp; omega
      simp only [go_sem, Nat.reduceAdd, Nat.reduceMul, Nat.reduceEqDiff, Nat.reduceLeDiff, List.range_zero, List.drop_zero, List.nil_append, reduceIte]
      refine aw_drawn st4_16 mixed (by kernel_rfl) ?_
      simp only [hp, hs, hsub0, hsub1, ho0, ho1, go_sem, Nat.reduceAdd, Nat.reduceMul, Nat.reduceEqDiff, Nat.reduceLeDiff, List.range_zero, List.drop_zero, List.nil_append, reduceIte]
      refine RunsK.test 300 (by kernel_rfl) noNum eval21 ?_
      simp only [hp, hs, hsub0, hsub1, ho0, ho1, go_sem, Nat.reduceAdd, Nat.reduceMul, Nat.reduceEqDiff, Nat.reduceLeDiff, List.range_zero, List.drop_zero, List.nil_append, reduceIte]
      refine run22 v (by rw [vd.wf.out, hvT]) (by omega) _ _ ?_
      rw [things_eq]
      simp only [hp, hs, hsub0, hsub1, ho0, ho1, go_sem, Nat.reduceAdd, Nat.reduceMul, Nat.reduceEqDiff, Nat.reduceLeDiff, List.range_zero, List.drop_zero, List.nil_append, reduceIte]
      refine run25 _ _ (htop _) (by omega) _ _ ?_
      rw [hro]
      simp only [hp, hs, hsub0, hsub1, ho0, ho1, go_sem, Nat.reduceAdd, Nat.reduceMul, Nat.reduceEqDiff, Nat.reduceLeDiff, List.range_zero, List.drop_zero, List.nil_append, reduceIte]
      refine run21 v (-1) _ hwf (by omega) (by rw [hvT]) _ _ ?_
      rw [hrn]
      simp only [hp, hs, hsub0, hsub1, ho0, ho1, Bool.false_eq_true, z0, decide_true, go_sem, Nat.reduceAdd, Nat.reduceMul, Nat.reduceEqDiff, Nat.reduceLeDiff, List.range_zero, List.drop_zero, List.nil_append, reduceIte]
      refine run21 v p.regs _ hwf (by omega) (by rw [hvT]) _ _ ?_
      rw [hrk]
      simp only [hp, hs, hsub0, hsub1, ho0, ho1, Bool.false_eq_true, z0, decide_true, go_sem, Nat.reduceAdd, Nat.reduceMul, Nat.reduceEqDiff, Nat.reduceLeDiff, List.range_zero, List.drop_zero, List.nil_append, reduceIte]
      exact WRet.bool (hb2.trans hb).ext hK rfl
end Go.Am
