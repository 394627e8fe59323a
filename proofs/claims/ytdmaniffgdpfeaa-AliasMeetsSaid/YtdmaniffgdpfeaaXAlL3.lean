/- A part of the proof that AliasThings and AliasMeets return true for every module: texts on an abstract reading of the code (AlL4, AlL3). -/
import Derived.Test.YtdmaniffgdpfeaaXAlR8
import Derived.Test.YtdmaniffgdpfeaaXAlP1
import Derived.Test.YtdmaniffgdpfeaaXEv21
import Derived.Test.YtdmaniffgdpfeaaXAlP2
set_option linter.unusedVariables false
set_option linter.unusedSimpArgs false
set_option linter.unusedSectionVars false
set_option maxRecDepth 100000
set_option maxHeartbeats 1000000
set_option linter.unusedSimpArgs false
set_option linter.unusedVariables false
namespace Go.Am
open Go Go.Proofs
theorem err0 : ∀ n : Int, (0 : Int) = n → n = 0 := fun _ h => h.symm
theorem RightB.pget {m : MMod} {n : Int} {p : MProc} (h : RightB m n p) : ∃ k : Nat, n = k ∧ ∃ hk : k < m.procs.length, m.procs[k] = p := by
  have hb := h.nb
  refine ⟨n.toNat, by omega, by omega, ?_⟩
  have := h.get
  rw [List.getElem?_eq_some_iff] at this
  exact this.2
theorem zmod {S : Nat → Prop} {h : Heap} : FrzS S h (.agg [.val (.slice none 0 0), .val (.slice none 0 0), .val (.slice none 0 0), .val (.int .i64 0)]) (MMod.mk [] [] [] 0).enc := by
  refine .agg _ _ rfl fun i x y h1 h2 => ?_
  match i with
  | 0 => cases h1; cases h2; exact .nil 4
  | 1 => cases h1; cases h2; exact .nil 1
  | 2 => cases h1; cases h2; exact .nil 6
  | 3 => cases h1; cases h2; exact .pure _
  | i + 4 => cases h1
theorem frzH0 {h : Heap} : FrzH (fun _ => False) h h := ⟨rfl, fun _ hf => hf.elim, fun o ob ho => ⟨ob, ho, .same _⟩, fun _ _ e => e⟩
theorem run4 (m : MMod) (hl : m.Lens) (n : Int) (h : Heap) (K) (hK : K (B true) h) : RunsK Try.prog 4 [m.enc, I n] h K := by
  refine RunsK.intro Try.func4 rfl (by decide) (by simp only [Try.f4, go_sem]; decide) ?_ <;> simp only [Try.f4]
  have z0 : ((0 : Nat) : Int) = 0 := rfl
  simp only [go_sem, Nat.reduceAdd, Nat.reduceMul, Nat.reduceEqDiff, Nat.reduceLeDiff, List.range_zero, List.drop_zero, List.nil_append, reduceIte]
  refine run15 m hl n _ _ ?_
  simp only [go_sem, Nat.reduceAdd, Nat.reduceMul, Nat.reduceEqDiff, Nat.reduceLeDiff, List.range_zero, List.drop_zero, List.nil_append, reduceIte]
  cases hr : m.right n with
  | false =>
    simp only [go_sem, Nat.reduceAdd, Nat.reduceMul, Nat.reduceEqDiff, Nat.reduceLeDiff, List.range_zero, List.drop_zero, List.nil_append, reduceIte]
    refine RunsK.frz (.cons zmod (.cons (.pure _) .nil)) frzH0 ?_
    refine run17_bad _ n (by rcases Int.lt_or_le n 0 with hh | hh; exact .inl hh; exact .inr hh) _ _ ?_
    simp only [go_sem, Nat.reduceAdd, Nat.reduceMul, Nat.reduceEqDiff, Nat.reduceLeDiff, List.range_zero, List.drop_zero, List.nil_append, reduceIte]
    refine RunsK.test 300 (by kernel_rfl) noNum eval21 ?_
    simp only [decide_true, z0, go_sem, Nat.reduceAdd, Nat.reduceMul, Nat.reduceEqDiff, Nat.reduceLeDiff, List.range_zero, List.drop_zero, List.nil_append, reduceIte]
    refine run21n 0 _ _ ?_
    simp only [decide_true, z0, go_sem, Nat.reduceAdd, Nat.reduceMul, Nat.reduceEqDiff, Nat.reduceLeDiff, List.range_zero, List.drop_zero, List.nil_append, reduceIte]
    refine run22n _ _ ?_
    simp only [decide_true, z0, go_sem, Nat.reduceAdd, Nat.reduceMul, Nat.reduceEqDiff, Nat.reduceLeDiff, List.range_zero, List.drop_zero, List.nil_append, reduceIte]
    exact WRet.bool .mk hK rfl
  | true =>
  obtain ⟨p, rb⟩ := RightB.of hr
  obtain ⟨j, rfl, hjl, hjp⟩ := rb.pget
  subst hjp
  have pl := hl.each _ (List.getElem_mem hjl)
  have pb := rb.proc
  have hgl := rb.mod.globals
  have hgd := getD_map MProc.enc m.procs hjl
  have hreg := rb.regs
  have hpar := pb.params
  simp only [bnd hjl, hgd, toNatC, go_sem, Nat.reduceAdd, Nat.reduceMul, Nat.reduceEqDiff, Nat.reduceLeDiff, List.range_zero, List.drop_zero, List.nil_append, reduceIte]
  refine run17 m j hjl pb pl hgl _ _ ?_
  intro v vd
  generalize m.procs[j] = p at *
  simp only [decide_true, z0, go_sem, Nat.reduceAdd, Nat.reduceMul, Nat.reduceEqDiff, Nat.reduceLeDiff, List.range_zero, List.drop_zero, List.nil_append, reduceIte]
  refine run18 m p pb pl hgl _ _ ?_
  intro st bd
  obtain ⟨k, hk⟩ : ∃ k : Nat, p.regs = k := ⟨p.regs.toNat, by omega⟩
  rw [hk] at vd bd
  rw [toNatC] at vd bd
  have hTb : p.top m < 1099511627776 := by have := pb.objects; unfold MProc.top; omega
  have hvT : v.T = p.top m := vd.hT
  have hvl : v.st.regs.length = k := vd.wf.regs
  have hspl : v.sp.length = v.st.regs.length := by rw [vd.sp, foldEv, foldSp_len, spk_len, hvl]
  have hwf : v.st.WF v.st.regs.length ((p.top m + 63) / 64) := by rw [hvl]; exact vd.wf
  have hbl : st.regs.length = k := bd.wf.regs
  obtain ⟨h2, hh2⟩ : ∃ h2, h2 = h ++ [some (AObj.arr 26 4 [m.enc]), some (AObj.arr 32 6 [p.enc]), some (AObj.arr 47 2 [st.enc])] := ⟨_, rfl⟩
  have h2l : h2.length = h.length + 3 := by rw [hh2]; simp
  have hb2 : HB h h2 := by rw [hh2]; exact HB.refl.app
  have hp2 : h2[h.length + 1]? = some (some (AObj.arr 32 6 [p.enc])) := by rw [hh2]; simp only [go_sem, Nat.reduceAdd, Nat.reduceMul, Nat.reduceEqDiff, Nat.reduceLeDiff, List.range_zero, List.drop_zero, List.nil_append, reduceIte]
  have hs2 : h2[h.length + 2]? = some (some (AObj.arr 47 2 [st.enc])) := by rw [hh2]; simp only [go_sem, Nat.reduceAdd, Nat.reduceMul, Nat.reduceEqDiff, Nat.reduceLeDiff, List.range_zero, List.drop_zero, List.nil_append, reduceIte]
  have hflat : flat st.enc = [.il 1 (st.regs.map boolIl), boolIl st.out] := by simp only [BSt.enc, go_sem]
  have hsto : storable st.enc = true := by simp only [BSt.enc, go_sem]
  have hpart : partOk st.enc = true := by simp only [BSt.enc, go_sem]
  have hshape : shapeOk Try.prog 47 st.enc = True := by simp only [BSt.enc, go_sem, Nat.reduceAdd]
  have hsub0 : ∀ q, st.enc.sub (0 :: q) = AV.sub (.il 1 (st.regs.map boolIl)) q := fun q => rfl
  have hsub1 : ∀ q, st.enc.sub (1 :: q) = AV.sub (boolIl st.out) q := fun q => rfl
  have ho0 : st.enc.offs [0] = some 0 := by simp only [BSt.enc, go_sem]
  have ho1 : st.enc.offs [1] = some 1 := by simp only [BSt.enc, go_sem, Nat.reduceAdd]
  simp only [hflat, hsto, hpart, hshape, go_sem, Nat.reduceAdd, Nat.reduceMul, Nat.reduceEqDiff, Nat.reduceLeDiff, List.range_zero, List.drop_zero, List.nil_append, reduceIte]
  have hk63 : k < 9223372036854775808 := by omega
  have hmod : ∀ q : List AV, h ++ [some (AObj.arr 26 4 [m.enc]), some (AObj.arr 32 6 [p.enc]), some (AObj.arr 47 2 [st.enc])] = h2 := fun _ => hh2.symm
  refine aLoop_nat [7, 8, 10, 11] k (fun i vs hh => HB h2 hh ∧ vs = [.ptr (h.length + 1) 6 0 0 [], .iptr v.enc, .ptr (h.length + 2) 2 0 0 [], I i]) ?_ ?_
  · simp only [go_sem, Nat.reduceAdd, Nat.reduceMul, Nat.reduceEqDiff, Nat.reduceLeDiff, List.range_zero, List.drop_zero, List.nil_append, reduceIte]
    exact ⟨by rw [hh2]; exact .refl, rfl⟩
  · rintro i vs hh hki - ⟨hb, rfl⟩ I' μ m' hnx
    have hp := (hb.2 _ (by omega : h.length + 1 < h2.length)).trans hp2
    have hs := (hb.2 _ (by omega : h.length + 2 < h2.length)).trans hs2
    simp only [hp, hs, ltI, hk, go_sem, Nat.reduceAdd, Nat.reduceMul, Nat.reduceEqDiff, Nat.reduceLeDiff, List.range_zero, List.drop_zero, List.nil_append, reduceIte]
    refine AIf_intro (fun hlt => ?_) (fun hge => ?_)
    · simp only [decide_eq_true_eq] at hlt
      simp only [go_sem, Nat.reduceAdd, Nat.reduceMul, Nat.reduceEqDiff, Nat.reduceLeDiff, List.range_zero, List.drop_zero, List.nil_append, reduceIte]
      refine run23 v i hspl _ _ ?_
      have hex := vd.exact pb hk i
      rw [hex]
      simp only [hp, go_sem, Nat.reduceAdd, Nat.reduceMul, Nat.reduceEqDiff, Nat.reduceLeDiff, List.range_zero, List.drop_zero, List.nil_append, reduceIte]
      refine run24 m p pb pl hgl i _ _ ?_
      have hhl := hb.1
      generalize exactR p i = x
      have hE : x.enc3 = .agg [I x.thing, I x.off, B x.is] := rfl
      rw [hE]
      simp only [go_sem, Nat.reduceAdd, Nat.reduceMul, Nat.reduceEqDiff, Nat.reduceLeDiff, List.range_zero, List.drop_zero, List.nil_append, reduceIte]
      have hsg : ∀ g, (hh ++ g)[h.length + 2]? = some (some (AObj.arr 47 2 [st.enc])) := fun g => getApp hs
      have hbg : ∀ g, HB h2 (hh ++ g) := fun g => hb.app
      have hil : i < st.regs.length := by omega
      have gi := getD_map boolIl st.regs hil
      have hreg : v.reg i = true := by unfold AView.reg; simp; omega
      have hit := toNatC
      refine aw_drawn st4_14 mixed (by kernel_rfl) ?_
      simp only [hsg, hsub0, hsub1, ho0, ho1, bnd hil, gi, decide_true, Bool.not_true, go_sem, Nat.reduceAdd, Nat.reduceMul, Nat.reduceEqDiff, Nat.reduceLeDiff, List.range_zero, List.drop_zero, List.nil_append, reduceIte]
      refine run21 v i _ hwf (by omega) (by rw [hvT]) _ _ ?_
      rw [hreg, if_pos rfl, things_eq, toNatC]
      simp only [hsg, hsub0, hsub1, ho0, ho1, bnd hil, gi, decide_true, Bool.not_true, go_sem, Nat.reduceAdd, Nat.reduceMul, Nat.reduceEqDiff, Nat.reduceLeDiff, List.range_zero, List.drop_zero, List.nil_append, reduceIte]
      have htop : ∀ ws, (thingsI v.T ws).length < 9223372036854775808 := fun ws => by
        have := things_len (T := v.T) (ws := ws)
        rw [things_eq, List.length_map] at this
        omega
      have hrl : ∀ r ∈ st.regs, r.length = v.T := fun r hr => by rw [hvT]; exact bd.wf.row r hr
      have hri : risingB (thingsI v.T (v.st.regs.getD i [])) st.regs[i] = true := by
        refine rising_of (hrl _ (List.getElem_mem hil)) fun t _ => ?_
        rw [same_row vd bd i t, getD_eq hil]
      refine run25 _ _ (htop _) (by rw [hrl _ (List.getElem_mem hil)]; omega) _ _ ?_
      rw [hri]
      simp only [hsg, hsub0, hsub1, ho0, ho1, bnd hil, gi, decide_true, Bool.not_true, beq_self_eq_true, inc64 hlt hk63, go_sem, Nat.reduceAdd, Nat.reduceMul, Nat.reduceEqDiff, Nat.reduceLeDiff, List.range_zero, List.drop_zero, List.nil_append, reduceIte]
      exact hnx _ _ hlt ⟨hbg _, rfl⟩
    · simp only [decide_eq_false_iff_not] at hge
      have htop : ∀ ws, (thingsI v.T ws).length < 9223372036854775808 := fun ws => by
        have := things_len (T := v.T) (ws := ws)
        rw [things_eq, List.length_map] at this
        omega
      have hol : st.out.length = v.T := by rw [hvT]; exact bd.wf.out
      have hro : risingB (thingsI v.T v.st.out) st.out = true := rising_of hol fun t _ => same_out vd bd t
      have hrn : v.reg (-1) = false := rfl
      have hrk : v.reg p.regs = false := by unfold AView.reg; simp; omega
      simp only [go_sem, Nat.reduceAdd, Nat.reduceMul, Nat.reduceEqDiff, Nat.reduceLeDiff, List.range_zero, List.drop_zero, List.nil_append, reduceIte]
      refine aw_drawn st4_16 mixed (by kernel_rfl) ?_
      simp only [hp, hs, hsub0, hsub1, ho0, ho1, go_sem, Nat.reduceAdd, Nat.reduceMul, Nat.reduceEqDiff, Nat.reduceLeDiff, List.range_zero, List.drop_zero, List.nil_append, reduceIte]
      refine RunsK.test 300 (by kernel_rfl) noNum eval21 ?_
      simp only [hp, hs, hsub0, hsub1, ho0, ho1, go_sem, Nat.reduceAdd, Nat.reduceMul, Nat.reduceEqDiff, Nat.reduceLeDiff, List.range_zero, List.drop_zero, List.nil_append, reduceIte]
      refine run22 v (by rw [vd.wf.out, hvT]) (by omega) _ _ ?_
      rw [things_eq]
      simp only [hp, hs, hsub0, hsub1, ho0, ho1, go_sem, Nat.reduceAdd, Nat.reduceMul, Nat.reduceEqDiff, Nat.reduceLeDiff, List.range_zero, List.drop_zero, List.nil_append, reduceIte]
      refine run25 _ _ (htop _) (by omega) _ _ ?_
      rw [hro]
      simp only [hp, hs, hsub0, hsub1, ho0, ho1, go_sem, Nat.reduceAdd, Nat.reduceMul, Nat.reduceEqDiff, Nat.reduceLeDiff, List.range_zero, List.drop_zero, List.nil_append, reduceIte]
      refine run21 v (-1) _ hwf (by omega) (by rw [hvT]) _ _ ?_
      rw [hrn]
      simp only [hp, hs, hsub0, hsub1, ho0, ho1, Bool.false_eq_true, z0, decide_true, go_sem, Nat.reduceAdd, Nat.reduceMul, Nat.reduceEqDiff, Nat.reduceLeDiff, List.range_zero, List.drop_zero, List.nil_append, reduceIte]
      refine run21 v p.regs _ hwf (by omega) (by rw [hvT]) _ _ ?_
      rw [hrk]
      simp only [hp, hs, hsub0, hsub1, ho0, ho1, Bool.false_eq_true, z0, decide_true, go_sem, Nat.reduceAdd, Nat.reduceMul, Nat.reduceEqDiff, Nat.reduceLeDiff, List.range_zero, List.drop_zero, List.nil_append, reduceIte]
      exact WRet.bool (hb2.trans hb).ext hK rfl
end Go.Am

set_option maxRecDepth 100000
set_option maxHeartbeats 1000000
set_option linter.unusedSimpArgs false
set_option linter.unusedVariables false
namespace Go.Am
open Go Go.Proofs
theorem remi {x : Int} {n : Nat} (hn : 0 < n) (hn2 : n < 1099511627776) : ∃ k : Nat, k < n ∧ IntKind.i64.wrap (x.tmod n + n) = x.tmod n + n ∧ (x.tmod n + n).tmod n = (k : Int) := by
  have h1 : -(n : Int) < x.tmod n := by
    have := Int.lt_tmod_of_pos x (b := (n : Int)) (by omega)
    omega
  have h2 : x.tmod n < n := Int.tmod_lt_of_pos x (by omega)
  have h3 : 0 ≤ x.tmod n + n := by omega
  have h4 : 0 ≤ (x.tmod n + n).tmod n := Int.tmod_nonneg n h3
  have h5 : (x.tmod n + n).tmod n < n := Int.tmod_lt_of_pos _ (by omega)
  refine ⟨((x.tmod n + n).tmod n).toNat, by omega, wrap_i64 (by omega) (by omega), ?_⟩
  omega
theorem run3 (m : MMod) (hl : m.Lens) (n x0 x1 x2 x3 : Int) (h : Heap) (K) (hK : K (B true) h) : RunsK Try.prog 3 [m.enc, I n, .agg [I x0, I x1, I x2, I x3]] h K := by
  refine RunsK.intro Try.func3 rfl (by decide) (by simp only [Try.f3, go_sem]; decide) ?_ <;> simp only [Try.f3]
  have z0 : ((0 : Nat) : Int) = 0 := rfl
  simp only [go_sem, Nat.reduceAdd, Nat.reduceMul, Nat.reduceEqDiff, Nat.reduceLeDiff, List.range_zero, List.drop_zero, List.nil_append, reduceIte]
  refine run15 m hl n _ _ ?_
  simp only [go_sem, Nat.reduceAdd, Nat.reduceMul, Nat.reduceEqDiff, Nat.reduceLeDiff, List.range_zero, List.drop_zero, List.nil_append, reduceIte]
  cases hr : m.right n with
  | false =>
    simp only [go_sem, Nat.reduceAdd, Nat.reduceMul, Nat.reduceEqDiff, Nat.reduceLeDiff, List.range_zero, List.drop_zero, List.nil_append, reduceIte]
    refine RunsK.test 300 (by kernel_rfl) noNum eval21 ?_
    simp only [go_sem, Nat.reduceAdd, Nat.reduceMul, Nat.reduceEqDiff, Nat.reduceLeDiff, List.range_zero, List.drop_zero, List.nil_append, reduceIte]
    exact WRet.bool .mk hK rfl
  | true =>
  obtain ⟨p, rb⟩ := RightB.of hr
  obtain ⟨j, rfl, hjl, hjp⟩ := rb.pget
  subst hjp
  have pl := hl.each _ (List.getElem_mem hjl)
  have pb := rb.proc
  have hgl := rb.mod.globals
  have hgd := getD_map MProc.enc m.procs hjl
  have hreg := rb.regs
  have hpar := pb.params
  have hf : ∀ b ∈ m.procs[j].blocks, b.ins.length ≤ 60 := (FewB.of rb.few).ins _ (List.getElem_mem hjl)
  have hrun17 := fun h K hK => run17 m j hjl pb pl hgl h K hK
  simp only [bnd hjl, hgd, toNatC, go_sem, Nat.reduceAdd, Nat.reduceMul, Nat.reduceEqDiff, Nat.reduceLeDiff, List.range_zero, List.drop_zero, List.nil_append, reduceIte]
  generalize m.procs[j] = p at *
  have hnb := pb.blocks
  have hlb := pl.blocks
  unfold Len at hlb
  have hnz : ((p.blocks.length : Int) ≠ 0) := by omega
  have hnz' : ((p.blocks.length : Int) = 0) = False := eq_false hnz
  have n0 : Int.toNat 0 = 0 := rfl
  have n1 : Int.toNat 1 = 1 := rfl
  have n2 : Int.toNat 2 = 2 := rfl
  have n3 : Int.toNat 3 = 3 := rfl
  have q0 : ABound 0 ((4 : Nat) : Int) := ⟨by decide, by decide⟩
  have q1 : ABound 1 ((4 : Nat) : Int) := ⟨by decide, by decide⟩
  have q2 : ABound 2 ((4 : Nat) : Int) := ⟨by decide, by decide⟩
  have q3 : ABound 3 ((4 : Nat) : Int) := ⟨by decide, by decide⟩
  obtain ⟨k0, hk0, wA0, wA1⟩ := remi (x := x0) (n := p.blocks.length) (by omega) (by omega)
  obtain ⟨k1, hk1, wB0, wB1⟩ := remi (x := x1) (n := p.blocks.length) (by omega) (by omega)
  have gA := getD_map MBlk.enc p.blocks hk0
  have gB := getD_map MBlk.enc p.blocks hk1
  have mA := List.getElem_mem hk0
  have mB := List.getElem_mem hk1
  have bk0 := bnd hk0
  have bk1 := bnd hk1
  generalize p.blocks[k0] = ba at gA mA
  generalize p.blocks[k1] = bb at gB mB
  have hfa := hf _ mA
  have hfb := hf _ mB
  refine aw_drawn st3_4 mixed (by kernel_rfl) ?_
  simp only [hnz, hnz', wA0, wA1, wB0, wB1, n0, n1, q0, q1, go_sem, Nat.reduceAdd, Nat.reduceMul, Nat.reduceEqDiff, Nat.reduceLeDiff, List.range_zero, List.drop_zero, List.nil_append, reduceIte]
  refine ⟨hnz, hnz, hnz, hnz, ?_⟩
  refine aw_drawn st3_5 mixed (by kernel_rfl) ?_
  simp only [bk0, gA, bk1, gB, toNatC, go_sem, Nat.reduceAdd, Nat.reduceMul, Nat.reduceEqDiff, Nat.reduceLeDiff, List.range_zero, List.drop_zero, List.nil_append, reduceIte]
  by_cases ha0 : ba.ins.length = 0
  · have d1 : decide ((ba.ins.length : Int) = 0) = true := decide_eq_true (by omega)
    simp only [d1, go_sem, Nat.reduceAdd, Nat.reduceMul, Nat.reduceEqDiff, Nat.reduceLeDiff, List.range_zero, List.drop_zero, List.nil_append, reduceIte]
    refine RunsK.test 300 (by kernel_rfl) noNum eval21 ?_
    simp only [go_sem, Nat.reduceAdd, Nat.reduceMul, Nat.reduceEqDiff, Nat.reduceLeDiff, List.range_zero, List.drop_zero, List.nil_append, reduceIte]
    exact WRet.bool .mk hK rfl
  have d1 : decide ((ba.ins.length : Int) = 0) = false := decide_eq_false (by omega)
  by_cases hb0 : bb.ins.length = 0
  · have d2 : decide ((bb.ins.length : Int) = 0) = true := decide_eq_true (by omega)
    simp only [d1, d2, go_sem, Nat.reduceAdd, Nat.reduceMul, Nat.reduceEqDiff, Nat.reduceLeDiff, List.range_zero, List.drop_zero, List.nil_append, reduceIte]
    refine RunsK.test 300 (by kernel_rfl) noNum eval21 ?_
    simp only [go_sem, Nat.reduceAdd, Nat.reduceMul, Nat.reduceEqDiff, Nat.reduceLeDiff, List.range_zero, List.drop_zero, List.nil_append, reduceIte]
    exact WRet.bool .mk hK rfl
  have d2 : decide ((bb.ins.length : Int) = 0) = false := decide_eq_false (by omega)
  simp only [d1, d2, go_sem, Nat.reduceAdd, Nat.reduceMul, Nat.reduceEqDiff, Nat.reduceLeDiff, List.range_zero, List.drop_zero, List.nil_append, reduceIte]
  have hnza : ((ba.ins.length : Int) ≠ 0) := by omega
  have hnzb : ((bb.ins.length : Int) ≠ 0) := by omega
  obtain ⟨i0, hi0, wC0, wC1⟩ := remi (x := x2) (n := ba.ins.length) (by omega) (by omega)
  obtain ⟨i1, hi1, wD0, wD1⟩ := remi (x := x3) (n := bb.ins.length) (by omega) (by omega)
  have gC := getD_map MIns.enc ba.ins hi0
  have gD := getD_map MIns.enc bb.ins hi1
  have iA := pb.ins _ mA _ (List.getElem_mem hi0)
  have iB := pb.ins _ mB _ (List.getElem_mem hi1)
  have bi0 := bnd hi0
  have bi1 := bnd hi1
  generalize ba.ins[i0] = a at gC iA
  generalize bb.ins[i1] = b at gD iB
  refine aw_drawn st3_8 mixed (by kernel_rfl) ?_
  simp only [bk0, gA, bk1, gB, toNatC, wC0, wC1, wD0, wD1, n2, n3, q2, q3, bi0, bi1, gC, gD, go_sem, Nat.reduceAdd, Nat.reduceMul, Nat.reduceEqDiff, Nat.reduceLeDiff, List.range_zero, List.drop_zero, List.nil_append, reduceIte]
  refine ⟨hnza, hnza, hnzb, hnzb, ?_⟩
  refine hrun17 _ _ ?_
  intro v vd
  simp only [decide_true, z0, go_sem, Nat.reduceAdd, Nat.reduceMul, Nat.reduceEqDiff, Nat.reduceLeDiff, List.range_zero, List.drop_zero, List.nil_append, reduceIte]
  refine run18 m p pb pl hgl _ _ ?_
  intro st bd
  obtain ⟨k, hk⟩ : ∃ k : Nat, p.regs = k := ⟨p.regs.toNat, by omega⟩
  rw [hk] at vd bd
  rw [toNatC] at vd bd
  have hTb : p.top m < 1099511627776 := by have := pb.objects; unfold MProc.top; omega
  have hvT : v.T = p.top m := vd.hT
  have hvl : v.st.regs.length = k := vd.wf.regs
  have hspl : v.sp.length = v.st.regs.length := by rw [vd.sp, foldEv, foldSp_len, spk_len, hvl]
  have hwf : v.st.WF v.st.regs.length ((p.top m + 63) / 64) := by rw [hvl]; exact vd.wf
  have hflat : flat st.enc = [.il 1 (st.regs.map boolIl), boolIl st.out] := by simp only [BSt.enc, go_sem]
  have hsto : storable st.enc = true := by simp only [BSt.enc, go_sem]
  have hpart : partOk st.enc = true := by simp only [BSt.enc, go_sem]
  have hshape : shapeOk Try.prog 47 st.enc = True := by simp only [BSt.enc, go_sem, Nat.reduceAdd]
  have memf : ∀ i : MIns, InsB p m i → isMem i = true → (0 ≤ i.a ∧ i.a < p.regs) ∧ (-32768 ≤ i.off ∧ i.off ≤ 32768) ∧ 0 ≤ i.size ∧ i.size ≤ 4 := by
    intro i ii hm
    have oa : i.op = 5 ∨ i.op = 6 := by simpa [isMem] using hm
    have hs := ii.size oa
    exact ⟨ii.a (by rcases oa with e | e <;> rw [e] <;> rfl), ii.off (by omega), by omega, by omega⟩
  have hoffR := fun r => exact_off pb (m := m) r
  have hoffV : ∀ r, -32768 ≤ (v.exact r).off ∧ (v.exact r).off ≤ 32768 := fun r => by rw [vd.exact pb hk]; exact hoffR r
  have mAB := vd.meet bd pb hk a b iA iB
  have mBA : v.meet b a = meetR p st a b := (vd.meet bd pb hk b a iB iA).trans (meetR_comm p st b a)
  simp only [hflat, hsto, hpart, hshape, go_sem, Nat.reduceAdd, Nat.reduceMul, Nat.reduceEqDiff, Nat.reduceLeDiff, List.range_zero, List.drop_zero, List.nil_append, reduceIte]
  refine run19 m p pb pl hgl st k (p.top m) bd.wf hk.symm hTb a b (memf a iA) (memf b iB) hoffR _ _ ?_
  simp only [hflat, hsto, hpart, hshape, go_sem, Nat.reduceAdd, Nat.reduceMul, Nat.reduceEqDiff, Nat.reduceLeDiff, List.range_zero, List.drop_zero, List.nil_append, reduceIte]
  refine run20 v a b _ hwf (by omega) hspl (fun e => (memf a iA e).2) (fun e => (memf b iB e).2) hoffV _ _ ?_
  rw [mAB]
  simp only [decide_true, Bool.not_true, bne_self_eq_false, beq_self_eq_true, go_sem, Nat.reduceAdd, Nat.reduceMul, Nat.reduceEqDiff, Nat.reduceLeDiff, List.range_zero, List.drop_zero, List.nil_append, reduceIte]
  refine run20 v b a _ hwf (by omega) hspl (fun e => (memf b iB e).2) (fun e => (memf a iA e).2) hoffV _ _ ?_
  rw [mBA]
  simp only [decide_true, Bool.not_true, bne_self_eq_false, beq_self_eq_true, go_sem, Nat.reduceAdd, Nat.reduceMul, Nat.reduceEqDiff, Nat.reduceLeDiff, List.range_zero, List.drop_zero, List.nil_append, reduceIte]
  refine aw_drawn st3_16 mixed (by kernel_rfl) ?_
  cases hma : isMem a with
  | false =>
    have hm2 := hma
    simp only [isMem, Bool.or_eq_false_iff] at hm2
    obtain ⟨a5, a6⟩ := hm2
    simp only [a5, a6, go_sem, Nat.reduceAdd, Nat.reduceMul, Nat.reduceEqDiff, Nat.reduceLeDiff, List.range_zero, List.drop_zero, List.nil_append, reduceIte]
    refine RunsK.test 300 (by kernel_rfl) noNum eval21 ?_
    simp only [go_sem, Nat.reduceAdd, Nat.reduceMul, Nat.reduceEqDiff, Nat.reduceLeDiff, List.range_zero, List.drop_zero, List.nil_append, reduceIte]
    exact WRet.bool .mk hK rfl
  | true =>
    have hself := meet_self vd bd pb hk a iA hma
    have hL : (if v.reg a.a = true then things v.T (v.st.regs.getD a.a.toNat []) else []) = (if v.reg a.a = true then thingsI v.T (v.st.regs.getD a.a.toNat []) else []).map I := by
      split
      · exact things_eq
      · rfl
    have h21 := fun h K hK => run21 v a.a _ hwf (by omega) (by rw [hvT]) h K hK
    rw [hL] at h21
    generalize (if v.reg a.a = true then thingsI v.T (v.st.regs.getD a.a.toNat []) else []) = L at *
    have hgt : decide ((L.length : Int) > 0) = decide (0 < L.length) := by
      rw [Bool.eq_iff_iff, decide_eq_true_eq, decide_eq_true_eq]; omega
    have hm2 := hma
    simp only [isMem, Bool.or_eq_true] at hm2
    have a56 : decide (a.op = 5) = true ∨ (decide (a.op = 5) = false ∧ decide (a.op = 6) = true) := by
      rcases hm2 with e | e
      · exact .inl e
      · cases h5 : decide (a.op = 5)
        · exact .inr ⟨rfl, e⟩
        · exact .inl rfl
    rcases a56 with a5 | ⟨a5, a6⟩
    · simp only [a5, go_sem, Nat.reduceAdd, Nat.reduceMul, Nat.reduceEqDiff, Nat.reduceLeDiff, List.range_zero, List.drop_zero, List.nil_append, reduceIte]
      refine run20 v a a _ hwf (by omega) hspl (fun e => (memf a iA e).2) (fun e => (memf a iA e).2) hoffV _ _ ?_
      rw [hself]
      simp only [a5, go_sem, Nat.reduceAdd, Nat.reduceMul, Nat.reduceEqDiff, Nat.reduceLeDiff, List.range_zero, List.drop_zero, List.nil_append, reduceIte]
      refine h21 _ _ ?_
      simp only [a5, hgt, bne_self_eq_false, beq_self_eq_true, decide_true, Bool.not_true, go_sem, Nat.reduceAdd, Nat.reduceMul, Nat.reduceEqDiff, Nat.reduceLeDiff, List.range_zero, List.drop_zero, List.nil_append, reduceIte]
      refine RunsK.test 300 (by kernel_rfl) noNum eval21 ?_
      simp only [go_sem, Nat.reduceAdd, Nat.reduceMul, Nat.reduceEqDiff, Nat.reduceLeDiff, List.range_zero, List.drop_zero, List.nil_append, reduceIte]
      exact WRet.bool .mk hK rfl
    · simp only [a5, a6, go_sem, Nat.reduceAdd, Nat.reduceMul, Nat.reduceEqDiff, Nat.reduceLeDiff, List.range_zero, List.drop_zero, List.nil_append, reduceIte]
      refine run20 v a a _ hwf (by omega) hspl (fun e => (memf a iA e).2) (fun e => (memf a iA e).2) hoffV _ _ ?_
      rw [hself]
      simp only [a5, a6, go_sem, Nat.reduceAdd, Nat.reduceMul, Nat.reduceEqDiff, Nat.reduceLeDiff, List.range_zero, List.drop_zero, List.nil_append, reduceIte]
      refine h21 _ _ ?_
      simp only [a5, a6, hgt, bne_self_eq_false, beq_self_eq_true, decide_true, Bool.not_true, go_sem, Nat.reduceAdd, Nat.reduceMul, Nat.reduceEqDiff, Nat.reduceLeDiff, List.range_zero, List.drop_zero, List.nil_append, reduceIte]
      refine RunsK.test 300 (by kernel_rfl) noNum eval21 ?_
      simp only [go_sem, Nat.reduceAdd, Nat.reduceMul, Nat.reduceEqDiff, Nat.reduceLeDiff, List.range_zero, List.drop_zero, List.nil_append, reduceIte]
      exact WRet.bool .mk hK rfl
end Go.Am
