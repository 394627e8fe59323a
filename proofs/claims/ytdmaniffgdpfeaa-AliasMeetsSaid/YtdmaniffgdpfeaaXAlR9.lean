/- A part of the proof that AliasThings and AliasMeets return true for every module: texts on an abstract reading of the code (AlR9). -/
import Derived.Test.YtdmaniffgdpfeaaXAlR8
import Derived.Test.YtdmaniffgdpfeaaXAlP1
set_option linter.unusedVariables false
set_option linter.unusedSimpArgs false
set_option linter.unusedSectionVars false
set_option maxRecDepth 100000
set_option maxHeartbeats 1000000
set_option linter.unusedSimpArgs false
set_option linter.unusedVariables false
namespace Go.Am
open Go Go.Proofs
def bothB (a b : List Bool) (n : Nat) : Bool := (List.range n).any fun t => a.getD t false && b.getD t false
theorem bothB_succ {a b n} : bothB a b (n + 1) = (bothB a b n || (a.getD n false && b.getD n false)) := by
  rw [bothB, List.range_succ, List.any_append]; simp [bothB]
theorem af_bst0 {x : BSt} {h K} : afield Try.prog 47 0 h K (.iptr x.enc) = K (.iptr (.il 1 (x.regs.map boolIl))) h := by simp only [BSt.enc, go_sem, Nat.reduceAdd]
theorem af_bst1 {x : BSt} {h K} : afield Try.prog 47 1 h K (.iptr x.enc) = K (.iptr (boolIl x.out)) h := by simp only [BSt.enc, go_sem, Nat.reduceAdd]
def hitB (x y : Int) (i j : Nat) : Bool := decide (x + i = y + j)
def hitsB (x y : Int) (n m : Nat) : Bool := (List.range n).any fun i => (List.range m).any fun j => hitB x y i j
def meetR (p : MProc) (st : BSt) (a b : MIns) : Bool :=
  isMem a && isMem b && bothB (st.regs.getD a.a.toNat []) (st.regs.getD b.a.toNat []) st.out.length &&
    (!(exactR p a.a).is || !(exactR p b.a).is || hitsB ((exactR p a.a).off + a.off) ((exactR p b.a).off + b.off) a.size.toNat b.size.toNat)
theorem hitsB_iff {x y : Int} {n m : Nat} : hitsB x y n m = true ↔ ∃ i, i < n ∧ ∃ j, j < m ∧ x + (i : Nat) = y + (j : Nat) := by
  simp only [hitsB, hitB, List.any_eq_true, List.mem_range, decide_eq_true_eq]
theorem run19 (m : MMod) (p : MProc) (pb : ProcB p m) (pl : p.Lens) (hg : m.globals.length ≤ 200) (st : BSt) (n T : Nat) (hwf : st.WF n T) (hn : (n : Int) = p.regs) (hT : T < 1099511627776) (a b : MIns)
    (ha : isMem a = true → (0 ≤ a.a ∧ a.a < p.regs) ∧ (-32768 ≤ a.off ∧ a.off ≤ 32768) ∧ 0 ≤ a.size ∧ a.size ≤ 4) (hb : isMem b = true → (0 ≤ b.a ∧ b.a < p.regs) ∧ (-32768 ≤ b.off ∧ b.off ≤ 32768) ∧ 0 ≤ b.size ∧ b.size ≤ 4)
    (hoff : ∀ r, -32768 ≤ (exactR p r).off ∧ (exactR p r).off ≤ 32768) (h : Heap) (K) (hK : K (B (meetR p st a b)) h) : RunsK Try.prog 19 [st.enc, p.enc, a.enc, b.enc] h K := by
  refine RunsK.intro Try.func19 rfl (by decide) (by simp only [Try.f19, go_sem]; decide) ?_ <;> simp only [Try.f19]
  have bad : ∀ hh, HExt h hh → meetR p st a b = false → WRet h K (.val (.bool false)) hh := fun hh e x => WRet.bool e hK x.symm
  have hflat : flat st.enc = [.il 1 (st.regs.map boolIl), boolIl st.out] := by simp only [BSt.enc, go_sem]
  have hsto : storable st.enc = true := by simp only [BSt.enc, go_sem]
  have hsub0 : ∀ q, st.enc.sub (0 :: q) = AV.sub (.il 1 (st.regs.map boolIl)) q := fun q => rfl
  have hsub1 : ∀ q, st.enc.sub (1 :: q) = AV.sub (boolIl st.out) q := fun q => rfl
  have ho0 : st.enc.offs [0] = some 0 := by simp only [BSt.enc, go_sem]
  have ho1 : st.enc.offs [1] = some 1 := by simp only [BSt.enc, go_sem, Nat.reduceAdd]
  simp only [hflat, hsto, go_sem, Nat.reduceAdd, Nat.reduceMul, Nat.reduceEqDiff, Nat.reduceLeDiff, List.range_zero, List.drop_zero, List.nil_append, reduceIte]
  have mem_or : ∀ i : MIns, isMem i = true ∨ isMem i = false := fun i => by cases isMem i <;> simp
  have nm : ∀ i : MIns, isMem i = false → decide (i.op = 5) = false ∧ decide (i.op = 6) = false := fun i e => by
    simp only [isMem, Bool.or_eq_false_iff] at e; exact e
  rcases mem_or a with hma | hma
  rotate_left
  · obtain ⟨a5, a6⟩ := nm a hma
    simp only [a5, a6, go_sem, Nat.reduceAdd, Nat.reduceMul, Nat.reduceEqDiff, Nat.reduceLeDiff, List.range_zero, List.drop_zero, List.nil_append, reduceIte]
    exact bad _ .mk (by simp [meetR, hma])
  rcases mem_or b with hmb | hmb
  rotate_left
  · obtain ⟨b5, b6⟩ := nm b hmb
    have hma' := hma
    simp only [isMem, Bool.or_eq_true] at hma'
    have a56 : decide (a.op = 5) = true ∨ (decide (a.op = 5) = false ∧ decide (a.op = 6) = true) := by
      rcases hma' with e | e
      · exact .inl e
      · cases h5 : decide (a.op = 5)
        · exact .inr ⟨rfl, e⟩
        · exact .inl rfl
    rcases a56 with a5 | ⟨a5, a6⟩
    · simp only [a5, b5, b6, go_sem, Nat.reduceAdd, Nat.reduceMul, Nat.reduceEqDiff, Nat.reduceLeDiff, List.range_zero, List.drop_zero, List.nil_append, reduceIte]
      exact bad _ .mk (by simp [meetR, hmb])
    · simp only [a5, a6, b5, b6, go_sem, Nat.reduceAdd, Nat.reduceMul, Nat.reduceEqDiff, Nat.reduceLeDiff, List.range_zero, List.drop_zero, List.nil_append, reduceIte]
      exact bad _ .mk (by simp [meetR, hmb])
  obtain ⟨⟨ra1, ra2⟩, ra3, ra4⟩ := ha hma
  obtain ⟨⟨rb1, rb2⟩, rb3, rb4⟩ := hb hmb
  obtain ⟨j, hj⟩ : ∃ k : Nat, a.a = k := ⟨a.a.toNat, by omega⟩
  obtain ⟨k, hk⟩ : ∃ k : Nat, b.a = k := ⟨b.a.toNat, by omega⟩
  have hjl : j < st.regs.length := by rw [hwf.regs]; omega
  have hkl : k < st.regs.length := by rw [hwf.regs]; omega
  have gj := getD_map boolIl st.regs hjl
  have gk := getD_map boolIl st.regs hkl
  have lj := hwf.row _ (List.getElem_mem hjl)
  have lk := hwf.row _ (List.getElem_mem hkl)
  have hol := hwf.out
  have em : meetR p st a b = (bothB st.regs[j] st.regs[k] st.out.length && (!(exactR p a.a).is || !(exactR p b.a).is || hitsB ((exactR p a.a).off + a.off) ((exactR p b.a).off + b.off) a.size.toNat b.size.toNat)) := by
    rw [meetR, hma, hmb, hj, hk, toNatC, toNatC, getD_eq hjl, getD_eq hkl]; simp
  have oa := hoff a.a
  have obb := hoff b.a
  have hf4 : ∀ X : Heap → Prop, (∀ hh, (∃ g, hh = h ++ [some (AObj.arr 47 2 [st.enc]), some (AObj.arr 32 6 [p.enc]), some (AObj.arr 39 11 [a.enc]), some (AObj.arr 39 11 [b.enc])] ++ g) → X hh) → X (h ++ [some (AObj.arr 47 2 [st.enc]), some (AObj.arr 32 6 [p.enc]), some (AObj.arr 39 11 [a.enc]), some (AObj.arr 39 11 [b.enc])]) := fun X hX => hX _ ⟨[], by simp⟩
  have op5 : ∀ i : MIns, isMem i = true → decide (i.op = 5) = true ∨ (decide (i.op = 5) = false ∧ decide (i.op = 6) = true) := fun i e => by
    simp only [isMem, Bool.or_eq_true] at e
    rcases e with e | e
    · exact .inl e
    · cases h5 : decide (i.op = 5)
      · exact .inr ⟨rfl, e⟩
      · exact .inl rfl
  have hjb := bnd hjl
  have hkb := bnd hkl
  have hreg8 := pb.regs
  obtain ⟨h2, hh2⟩ : ∃ h2, h2 = h ++ [some (AObj.arr 47 2 [st.enc]), some (AObj.arr 32 6 [p.enc]), some (AObj.arr 39 11 [a.enc]), some (AObj.arr 39 11 [b.enc])] := ⟨_, rfl⟩
  have h2l : h2.length = h.length + 4 := by rw [hh2]; simp
  have hb2 : HB h h2 := by rw [hh2]; exact HB.refl.app
  have hS : h2[h.length]? = some (some (AObj.arr 47 2 [st.enc])) := by rw [hh2]; simp only [go_sem, Nat.reduceAdd, Nat.reduceMul, Nat.reduceEqDiff, Nat.reduceLeDiff, List.range_zero, List.drop_zero, List.nil_append, reduceIte]
  have hP : h2[h.length + 1]? = some (some (AObj.arr 32 6 [p.enc])) := by rw [hh2]; simp only [go_sem, Nat.reduceAdd, Nat.reduceMul, Nat.reduceEqDiff, Nat.reduceLeDiff, List.range_zero, List.drop_zero, List.nil_append, reduceIte]
  have hA : h2[h.length + 2]? = some (some (AObj.arr 39 11 [a.enc])) := by rw [hh2]; simp only [go_sem, Nat.reduceAdd, Nat.reduceMul, Nat.reduceEqDiff, Nat.reduceLeDiff, List.range_zero, List.drop_zero, List.nil_append, reduceIte]
  have hB : h2[h.length + 3]? = some (some (AObj.arr 39 11 [b.enc])) := by rw [hh2]; simp only [go_sem, Nat.reduceAdd, Nat.reduceMul, Nat.reduceEqDiff, Nat.reduceLeDiff, List.range_zero, List.drop_zero, List.nil_append, reduceIte]
  have n1 : h.length + 1 = h.length + 1 := rfl
  have hT63 : T < 9223372036854775808 := by omega
  have oT : st.out.length = T := hol
  have hbT : ∀ t, t < T → bothB st.regs[j] st.regs[k] (t + 1) = (bothB st.regs[j] st.regs[k] t || (st.regs[j].getD t false && st.regs[k].getD t false)) := fun t _ => bothB_succ
  rw [hol] at em
  generalize st.regs[j] = rj at *
  generalize st.regs[k] = rk at *
  have tailw : ∀ x0 x1 x2 x3 : Bool, True := fun _ _ _ _ => trivial
  rcases op5 a hma with a5 | ⟨a5, a6⟩ <;> rcases op5 b hmb with b5 | ⟨b5, b6⟩
  · simp only [a5, b5, go_sem, Nat.reduceAdd, Nat.reduceMul, Nat.reduceEqDiff, Nat.reduceLeDiff, List.range_zero, List.drop_zero, List.nil_append, reduceIte]
    refine aLoop_nat [4, 5, 6, 7, 9, 10] T (fun t vs hh => h2 = hh ∧ vs = [.ptr h.length 2 0 0 [], .ptr (h.length + 1) 6 0 0 [], .ptr (h.length + 2) 11 0 0 [], .ptr (h.length + 3) 11 0 0 [], B (bothB rj rk t), I t]) ?_ ?_
    · simp only [go_sem, Nat.reduceAdd, Nat.reduceMul, Nat.reduceEqDiff, Nat.reduceLeDiff, List.range_zero, List.drop_zero, List.nil_append, reduceIte]
      exact ⟨hh2, rfl⟩
    · rintro t vs hh ht - ⟨rfl, rfl⟩ I' μ m' hnx
      simp only [hS, hP, hA, hB, hsub0, hsub1, ho0, ho1, oT, ltI, go_sem, Nat.reduceAdd, Nat.reduceMul, Nat.reduceEqDiff, Nat.reduceLeDiff, List.range_zero, List.drop_zero, List.nil_append, reduceIte]
      refine AIf_intro (fun hlt => ?_) (fun hge => ?_)
      · simp only [decide_eq_true_eq] at hlt
        have hs1 := hbT t hlt
        have hlj : t < rj.length := by omega
        have hlk : t < rk.length := by omega
        have next : ∀ x, x = bothB rj rk (t + 1) → I' [.ptr h.length 2 0 0 [], .ptr (h.length + 1) 6 0 0 [], .ptr (h.length + 2) 11 0 0 [], .ptr (h.length + 3) 11 0 0 [], B x, I (t + 1 : Nat)] h2 ∧ μ [.ptr h.length 2 0 0 [], .ptr (h.length + 1) 6 0 0 [], .ptr (h.length + 2) 11 0 0 [], .ptr (h.length + 3) 11 0 0 [], B x, I (t + 1 : Nat)] h2 < m' := fun x e => hnx _ _ hlt ⟨rfl, by rw [e]⟩
        cases hbo : bothB rj rk t with
        | true =>
          simp only [inc64 hlt hT63, go_sem, Nat.reduceAdd, Nat.reduceMul, Nat.reduceEqDiff, Nat.reduceLeDiff, List.range_zero, List.drop_zero, List.nil_append, reduceIte]
          exact next _ (by rw [hs1, hbo]; rfl)
        | false =>
          simp only [hS, hP, hA, hB, hsub0, hsub1, ho0, ho1, hj, hk, hjb, hkb, gj, gk, toNatC, hlj, hlk, go_sem, Nat.reduceAdd, Nat.reduceMul, Nat.reduceEqDiff, Nat.reduceLeDiff, List.range_zero, List.drop_zero, List.nil_append, reduceIte]
          cases hx : rj.getD t false with
          | false =>
            simp only [inc64 hlt hT63, go_sem, Nat.reduceAdd, Nat.reduceMul, Nat.reduceEqDiff, Nat.reduceLeDiff, List.range_zero, List.drop_zero, List.nil_append, reduceIte]
            exact next _ (by rw [hs1, hbo, hx]; rfl)
          | true =>
            simp only [hS, hP, hA, hB, hsub0, hsub1, ho0, ho1, hj, hk, hjb, hkb, gj, gk, toNatC, hlj, hlk, inc64 hlt hT63, go_sem, Nat.reduceAdd, Nat.reduceMul, Nat.reduceEqDiff, Nat.reduceLeDiff, List.range_zero, List.drop_zero, List.nil_append, reduceIte]
            exact next _ (by rw [hs1, hbo, hx]; rfl)
      · simp only [decide_eq_false_iff_not] at hge
        have htt : t = T := by omega
        subst htt
        simp only [go_sem, Nat.reduceAdd, Nat.reduceMul, Nat.reduceEqDiff, Nat.reduceLeDiff, List.range_zero, List.drop_zero, List.nil_append, reduceIte]
        refine aw_drawn st19_8 mixed (by kernel_rfl) ?_
        have hPg : ∀ g, (h2 ++ g)[h.length + 1]? = some (some (AObj.arr 32 6 [p.enc])) := fun g => getApp hP
        have hAg : ∀ g, (h2 ++ g)[h.length + 2]? = some (some (AObj.arr 39 11 [a.enc])) := fun g => getApp hA
        have hBg : ∀ g, (h2 ++ g)[h.length + 3]? = some (some (AObj.arr 39 11 [b.enc])) := fun g => getApp hB
        simp only [hS, hP, hA, hB, hPg, hAg, hBg, go_sem, Nat.reduceAdd, Nat.reduceMul, Nat.reduceEqDiff, Nat.reduceLeDiff, List.range_zero, List.drop_zero, List.nil_append, reduceIte]
        refine run24 m p pb pl hg a.a _ _ ?_
        simp only [hS, hP, hA, hB, hPg, hAg, hBg, go_sem, Nat.reduceAdd, Nat.reduceMul, Nat.reduceEqDiff, Nat.reduceLeDiff, List.range_zero, List.drop_zero, List.nil_append, reduceIte]
        refine run24 m p pb pl hg b.a _ _ ?_
        generalize exactR p a.a = xa at *
        generalize exactR p b.a = xb at *
        have hEa : xa.enc3 = .agg [I xa.thing, I xa.off, B xa.is] := rfl
        have hEb : xb.enc3 = .agg [I xb.thing, I xb.off, B xb.is] := rfl
        rw [hEa, hEb]
        simp only [hS, hP, hA, hB, hPg, hAg, hBg, go_sem, Nat.reduceAdd, Nat.reduceMul, Nat.reduceEqDiff, Nat.reduceLeDiff, List.range_zero, List.drop_zero, List.nil_append, reduceIte]
        have hext : ∀ g, HExt h (h2 ++ g) := fun g => (hb2.app).ext
        cases hbo : bothB rj rk t with
        | false =>
          rw [hbo] at em
          simp only [go_sem, Nat.reduceAdd, Nat.reduceMul, Nat.reduceEqDiff, Nat.reduceLeDiff, List.range_zero, List.drop_zero, List.nil_append, reduceIte]
          exact WRet.bool (hext _) hK (by rw [em]; rfl)
        | true =>
        rw [hbo] at em
        obtain ⟨xt, xo, xs, xi⟩ := xa
        obtain ⟨yt, yo, ys, yi⟩ := xb
        cases xi with
        | false =>
          simp only [go_sem, Nat.reduceAdd, Nat.reduceMul, Nat.reduceEqDiff, Nat.reduceLeDiff, List.range_zero, List.drop_zero, List.nil_append, reduceIte]
          exact WRet.bool (hext _) hK (by rw [em]; rfl)
        | true =>
        simp only [go_sem, Nat.reduceAdd, Nat.reduceMul, Nat.reduceEqDiff, Nat.reduceLeDiff, List.range_zero, List.drop_zero, List.nil_append, reduceIte]
        cases yi with
        | false =>
          simp only [go_sem, Nat.reduceAdd, Nat.reduceMul, Nat.reduceEqDiff, Nat.reduceLeDiff, List.range_zero, List.drop_zero, List.nil_append, reduceIte]
          exact WRet.bool (hext _) hK (by rw [em]; simp)
        | true =>
        simp only [go_sem, Nat.reduceAdd, Nat.reduceMul, Nat.reduceEqDiff, Nat.reduceLeDiff, List.range_zero, List.drop_zero, List.nil_append, reduceIte]
        simp only [Bool.not_true, Bool.false_or, Bool.true_and] at em
        obtain ⟨an, han⟩ : ∃ q : Nat, a.size = q := ⟨a.size.toNat, by omega⟩
        obtain ⟨bn, hbn⟩ : ∃ q : Nat, b.size = q := ⟨b.size.toNat, by omega⟩
        rw [han, hbn, toNatC, toNatC] at em
        simp only at oa obb
        obtain ⟨h3, hh3⟩ : ∃ h3, h3 = h2 ++ [some (AObj.arr 57 3 [AV.agg [I xt, I xo, B true]]), some (AObj.arr 57 3 [AV.agg [I yt, I yo, B true]])] := ⟨_, rfl⟩
        have hA3 : h3[h.length + 2]? = some (some (AObj.arr 39 11 [a.enc])) := by rw [hh3]; exact getApp hA
        have hB3 : h3[h.length + 3]? = some (some (AObj.arr 39 11 [b.enc])) := by rw [hh3]; exact getApp hB
        have hX3 : h3[h2.length]? = some (some (AObj.arr 57 3 [AV.agg [I xt, I xo, B true]])) := by rw [hh3]; simp only [go_sem, Nat.reduceAdd, Nat.reduceMul, Nat.reduceEqDiff, Nat.reduceLeDiff, List.range_zero, List.drop_zero, List.nil_append, reduceIte]
        have hY3 : h3[h2.length + 1]? = some (some (AObj.arr 57 3 [AV.agg [I yt, I yo, B true]])) := by rw [hh3]; simp only [go_sem, Nat.reduceAdd, Nat.reduceMul, Nat.reduceEqDiff, Nat.reduceLeDiff, List.range_zero, List.drop_zero, List.nil_append, reduceIte]
        have hext3 : HExt h h3 := by rw [hh3]; exact hext _
        have wa1 : IntKind.i64.wrap (xo + a.off) = xo + a.off := wrap_i64 (by omega) (by omega)
        have wb1 : IntKind.i64.wrap (yo + b.off) = yo + b.off := wrap_i64 (by omega) (by omega)
        have hz0 : ((0 : Nat) : Int) = 0 := rfl
        refine aLoop_nat [6, 7, 11, 12, 13] an (fun i vs hh => h3 = hh ∧ (∀ i', i' < i → ∀ j', j' < bn → xo + a.off + (i' : Nat) ≠ yo + b.off + (j' : Nat)) ∧ vs = [.ptr (h.length + 2) 11 0 0 [], .ptr (h.length + 3) 11 0 0 [], .ptr h2.length 3 0 0 [], .ptr (h2.length + 1) 3 0 0 [], I i]) ?_ ?_
        · simp only [go_sem, Nat.reduceAdd, Nat.reduceMul, Nat.reduceEqDiff, Nat.reduceLeDiff, List.range_zero, List.drop_zero, List.nil_append, reduceIte]
          exact ⟨hh3, fun i' hi' => by omega, rfl⟩
        · rintro i vs hh hi - ⟨rfl, hne, rfl⟩ I2 μ2 m2 hnx2
          simp only [hA3, hB3, han, ltI, go_sem, Nat.reduceAdd, Nat.reduceMul, Nat.reduceEqDiff, Nat.reduceLeDiff, List.range_zero, List.drop_zero, List.nil_append, reduceIte]
          refine AIf_intro (fun hlt => ?_) (fun hge => ?_)
          · simp only [decide_eq_true_eq] at hlt
            simp only [go_sem, Nat.reduceAdd, Nat.reduceMul, Nat.reduceEqDiff, Nat.reduceLeDiff, List.range_zero, List.drop_zero, List.nil_append, reduceIte]
            refine aLoop_nat [6, 7, 11, 12, 13, 14] bn (fun q vs hh => h3 = hh ∧ (∀ j', j' < q → xo + a.off + (i : Nat) ≠ yo + b.off + (j' : Nat)) ∧ vs = [.ptr (h.length + 2) 11 0 0 [], .ptr (h.length + 3) 11 0 0 [], .ptr h2.length 3 0 0 [], .ptr (h2.length + 1) 3 0 0 [], I i, I q]) ?_ ?_
            · simp only [go_sem, Nat.reduceAdd, Nat.reduceMul, Nat.reduceEqDiff, Nat.reduceLeDiff, List.range_zero, List.drop_zero, List.nil_append, reduceIte]
              exact ⟨fun i' hi' => by omega, rfl⟩
            · rintro q vs hh hq - ⟨rfl, hne2, rfl⟩ I3 μ3 m3 hnx3
              simp only [hA3, hB3, hbn, ltI, go_sem, Nat.reduceAdd, Nat.reduceMul, Nat.reduceEqDiff, Nat.reduceLeDiff, List.range_zero, List.drop_zero, List.nil_append, reduceIte]
              refine AIf_intro (fun hlt2 => ?_) (fun hge2 => ?_)
              · simp only [decide_eq_true_eq] at hlt2
                have wa2 : IntKind.i64.wrap (xo + a.off + (i : Nat)) = xo + a.off + (i : Nat) := wrap_i64 (by omega) (by omega)
                have wb2 : IntKind.i64.wrap (yo + b.off + (q : Nat)) = yo + b.off + (q : Nat) := wrap_i64 (by omega) (by omega)
                simp only [hA3, hB3, hX3, hY3, wa1, wb1, wa2, wb2, go_sem, Nat.reduceAdd, Nat.reduceMul, Nat.reduceEqDiff, Nat.reduceLeDiff, List.range_zero, List.drop_zero, List.nil_append, reduceIte]
                refine AIf_intro (fun he => ?_) (fun he => ?_)
                · have he' : xo + a.off + (i : Nat) = yo + b.off + (q : Nat) := by simpa using he
                  simp only [go_sem, Nat.reduceAdd, Nat.reduceMul, Nat.reduceEqDiff, Nat.reduceLeDiff, List.range_zero, List.drop_zero, List.nil_append, reduceIte]
                  exact WRet.bool hext3 hK (by rw [em]; exact (hitsB_iff.2 ⟨i, hlt, q, hlt2, he'⟩).symm)
                · have he' : ¬ xo + a.off + (i : Nat) = yo + b.off + (q : Nat) := by simpa using he
                  simp only [inc64 hlt2 (by omega), go_sem, Nat.reduceAdd, Nat.reduceMul, Nat.reduceEqDiff, Nat.reduceLeDiff, List.range_zero, List.drop_zero, List.nil_append, reduceIte]
                  refine hnx3 _ _ hlt2 ⟨rfl, fun j' hj' => ?_, rfl⟩
                  by_cases e : j' = q
                  · subst e; exact he'
                  · exact hne2 j' (by omega)
              · simp only [decide_eq_false_iff_not] at hge2
                have hqq : q = bn := by omega
                subst hqq
                simp only [inc64 hlt (by omega), go_sem, Nat.reduceAdd, Nat.reduceMul, Nat.reduceEqDiff, Nat.reduceLeDiff, List.range_zero, List.drop_zero, List.nil_append, reduceIte]
                refine hnx2 _ _ hlt ⟨rfl, fun i' hi' => ?_, rfl⟩
                by_cases e : i' = i
                · subst e; exact hne2
                · exact hne i' (by omega)
          · simp only [decide_eq_false_iff_not] at hge
            have hii : i = an := by omega
            subst hii
            simp only [go_sem, Nat.reduceAdd, Nat.reduceMul, Nat.reduceEqDiff, Nat.reduceLeDiff, List.range_zero, List.drop_zero, List.nil_append, reduceIte]
            refine WRet.bool hext3 hK ?_
            rw [em]
            symm
            rw [Bool.eq_false_iff]
            intro hc
            obtain ⟨i', hi', j', hj', e⟩ := hitsB_iff.1 hc
            exact hne i' hi' j' hj' e
  · simp only [a5, b5, b6, go_sem, Nat.reduceAdd, Nat.reduceMul, Nat.reduceEqDiff, Nat.reduceLeDiff, List.range_zero, List.drop_zero, List.nil_append, reduceIte]
    refine aLoop_nat [4, 5, 6, 7, 9, 10] T (fun t vs hh => h2 = hh ∧ vs = [.ptr h.length 2 0 0 [], .ptr (h.length + 1) 6 0 0 [], .ptr (h.length + 2) 11 0 0 [], .ptr (h.length + 3) 11 0 0 [], B (bothB rj rk t), I t]) ?_ ?_
    · simp only [go_sem, Nat.reduceAdd, Nat.reduceMul, Nat.reduceEqDiff, Nat.reduceLeDiff, List.range_zero, List.drop_zero, List.nil_append, reduceIte]
      exact ⟨hh2, rfl⟩
    · rintro t vs hh ht - ⟨rfl, rfl⟩ I' μ m' hnx
      simp only [hS, hP, hA, hB, hsub0, hsub1, ho0, ho1, oT, ltI, go_sem, Nat.reduceAdd, Nat.reduceMul, Nat.reduceEqDiff, Nat.reduceLeDiff, List.range_zero, List.drop_zero, List.nil_append, reduceIte]
      refine AIf_intro (fun hlt => ?_) (fun hge => ?_)
      · simp only [decide_eq_true_eq] at hlt
        have hs1 := hbT t hlt
        have hlj : t < rj.length := by omega
        have hlk : t < rk.length := by omega
        have next : ∀ x, x = bothB rj rk (t + 1) → I' [.ptr h.length 2 0 0 [], .ptr (h.length + 1) 6 0 0 [], .ptr (h.length + 2) 11 0 0 [], .ptr (h.length + 3) 11 0 0 [], B x, I (t + 1 : Nat)] h2 ∧ μ [.ptr h.length 2 0 0 [], .ptr (h.length + 1) 6 0 0 [], .ptr (h.length + 2) 11 0 0 [], .ptr (h.length + 3) 11 0 0 [], B x, I (t + 1 : Nat)] h2 < m' := fun x e => hnx _ _ hlt ⟨rfl, by rw [e]⟩
        cases hbo : bothB rj rk t with
        | true =>
          simp only [inc64 hlt hT63, go_sem, Nat.reduceAdd, Nat.reduceMul, Nat.reduceEqDiff, Nat.reduceLeDiff, List.range_zero, List.drop_zero, List.nil_append, reduceIte]
          exact next _ (by rw [hs1, hbo]; rfl)
        | false =>
          simp only [hS, hP, hA, hB, hsub0, hsub1, ho0, ho1, hj, hk, hjb, hkb, gj, gk, toNatC, hlj, hlk, go_sem, Nat.reduceAdd, Nat.reduceMul, Nat.reduceEqDiff, Nat.reduceLeDiff, List.range_zero, List.drop_zero, List.nil_append, reduceIte]
          cases hx : rj.getD t false with
          | false =>
            simp only [inc64 hlt hT63, go_sem, Nat.reduceAdd, Nat.reduceMul, Nat.reduceEqDiff, Nat.reduceLeDiff, List.range_zero, List.drop_zero, List.nil_append, reduceIte]
            exact next _ (by rw [hs1, hbo, hx]; rfl)
          | true =>
            simp only [hS, hP, hA, hB, hsub0, hsub1, ho0, ho1, hj, hk, hjb, hkb, gj, gk, toNatC, hlj, hlk, inc64 hlt hT63, go_sem, Nat.reduceAdd, Nat.reduceMul, Nat.reduceEqDiff, Nat.reduceLeDiff, List.range_zero, List.drop_zero, List.nil_append, reduceIte]
            exact next _ (by rw [hs1, hbo, hx]; rfl)
      · simp only [decide_eq_false_iff_not] at hge
        have htt : t = T := by omega
        subst htt
        simp only [go_sem, Nat.reduceAdd, Nat.reduceMul, Nat.reduceEqDiff, Nat.reduceLeDiff, List.range_zero, List.drop_zero, List.nil_append, reduceIte]
        refine aw_drawn st19_8 mixed (by kernel_rfl) ?_
        have hPg : ∀ g, (h2 ++ g)[h.length + 1]? = some (some (AObj.arr 32 6 [p.enc])) := fun g => getApp hP
        have hAg : ∀ g, (h2 ++ g)[h.length + 2]? = some (some (AObj.arr 39 11 [a.enc])) := fun g => getApp hA
        have hBg : ∀ g, (h2 ++ g)[h.length + 3]? = some (some (AObj.arr 39 11 [b.enc])) := fun g => getApp hB
        simp only [hS, hP, hA, hB, hPg, hAg, hBg, go_sem, Nat.reduceAdd, Nat.reduceMul, Nat.reduceEqDiff, Nat.reduceLeDiff, List.range_zero, List.drop_zero, List.nil_append, reduceIte]
        refine run24 m p pb pl hg a.a _ _ ?_
        simp only [hS, hP, hA, hB, hPg, hAg, hBg, go_sem, Nat.reduceAdd, Nat.reduceMul, Nat.reduceEqDiff, Nat.reduceLeDiff, List.range_zero, List.drop_zero, List.nil_append, reduceIte]
        refine run24 m p pb pl hg b.a _ _ ?_
        generalize exactR p a.a = xa at *
        generalize exactR p b.a = xb at *
        have hEa : xa.enc3 = .agg [I xa.thing, I xa.off, B xa.is] := rfl
        have hEb : xb.enc3 = .agg [I xb.thing, I xb.off, B xb.is] := rfl
        rw [hEa, hEb]
        simp only [hS, hP, hA, hB, hPg, hAg, hBg, go_sem, Nat.reduceAdd, Nat.reduceMul, Nat.reduceEqDiff, Nat.reduceLeDiff, List.range_zero, List.drop_zero, List.nil_append, reduceIte]
        have hext : ∀ g, HExt h (h2 ++ g) := fun g => (hb2.app).ext
        cases hbo : bothB rj rk t with
        | false =>
          rw [hbo] at em
          simp only [go_sem, Nat.reduceAdd, Nat.reduceMul, Nat.reduceEqDiff, Nat.reduceLeDiff, List.range_zero, List.drop_zero, List.nil_append, reduceIte]
          exact WRet.bool (hext _) hK (by rw [em]; rfl)
        | true =>
        rw [hbo] at em
        obtain ⟨xt, xo, xs, xi⟩ := xa
        obtain ⟨yt, yo, ys, yi⟩ := xb
        cases xi with
        | false =>
          simp only [go_sem, Nat.reduceAdd, Nat.reduceMul, Nat.reduceEqDiff, Nat.reduceLeDiff, List.range_zero, List.drop_zero, List.nil_append, reduceIte]
          exact WRet.bool (hext _) hK (by rw [em]; rfl)
        | true =>
        simp only [go_sem, Nat.reduceAdd, Nat.reduceMul, Nat.reduceEqDiff, Nat.reduceLeDiff, List.range_zero, List.drop_zero, List.nil_append, reduceIte]
        cases yi with
        | false =>
          simp only [go_sem, Nat.reduceAdd, Nat.reduceMul, Nat.reduceEqDiff, Nat.reduceLeDiff, List.range_zero, List.drop_zero, List.nil_append, reduceIte]
          exact WRet.bool (hext _) hK (by rw [em]; simp)
        | true =>
        simp only [go_sem, Nat.reduceAdd, Nat.reduceMul, Nat.reduceEqDiff, Nat.reduceLeDiff, List.range_zero, List.drop_zero, List.nil_append, reduceIte]
        simp only [Bool.not_true, Bool.false_or, Bool.true_and] at em
        obtain ⟨an, han⟩ : ∃ q : Nat, a.size = q := ⟨a.size.toNat, by omega⟩
        obtain ⟨bn, hbn⟩ : ∃ q : Nat, b.size = q := ⟨b.size.toNat, by omega⟩
        rw [han, hbn, toNatC, toNatC] at em
        simp only at oa obb
        obtain ⟨h3, hh3⟩ : ∃ h3, h3 = h2 ++ [some (AObj.arr 57 3 [AV.agg [I xt, I xo, B true]]), some (AObj.arr 57 3 [AV.agg [I yt, I yo, B true]])] := ⟨_, rfl⟩
        have hA3 : h3[h.length + 2]? = some (some (AObj.arr 39 11 [a.enc])) := by rw [hh3]; exact getApp hA
        have hB3 : h3[h.length + 3]? = some (some (AObj.arr 39 11 [b.enc])) := by rw [hh3]; exact getApp hB
        have hX3 : h3[h2.length]? = some (some (AObj.arr 57 3 [AV.agg [I xt, I xo, B true]])) := by rw [hh3]; simp only [go_sem, Nat.reduceAdd, Nat.reduceMul, Nat.reduceEqDiff, Nat.reduceLeDiff, List.range_zero, List.drop_zero, List.nil_append, reduceIte]
        have hY3 : h3[h2.length + 1]? = some (some (AObj.arr 57 3 [AV.agg [I yt, I yo, B true]])) := by rw [hh3]; simp only [go_sem, Nat.reduceAdd, Nat.reduceMul, Nat.reduceEqDiff, Nat.reduceLeDiff, List.range_zero, List.drop_zero, List.nil_append, reduceIte]
        have hext3 : HExt h h3 := by rw [hh3]; exact hext _
        have wa1 : IntKind.i64.wrap (xo + a.off) = xo + a.off := wrap_i64 (by omega) (by omega)
        have wb1 : IntKind.i64.wrap (yo + b.off) = yo + b.off := wrap_i64 (by omega) (by omega)
        have hz0 : ((0 : Nat) : Int) = 0 := rfl
        refine aLoop_nat [6, 7, 11, 12, 13] an (fun i vs hh => h3 = hh ∧ (∀ i', i' < i → ∀ j', j' < bn → xo + a.off + (i' : Nat) ≠ yo + b.off + (j' : Nat)) ∧ vs = [.ptr (h.length + 2) 11 0 0 [], .ptr (h.length + 3) 11 0 0 [], .ptr h2.length 3 0 0 [], .ptr (h2.length + 1) 3 0 0 [], I i]) ?_ ?_
        · simp only [go_sem, Nat.reduceAdd, Nat.reduceMul, Nat.reduceEqDiff, Nat.reduceLeDiff, List.range_zero, List.drop_zero, List.nil_append, reduceIte]
          exact ⟨hh3, fun i' hi' => by omega, rfl⟩
        · rintro i vs hh hi - ⟨rfl, hne, rfl⟩ I2 μ2 m2 hnx2
          simp only [hA3, hB3, han, ltI, go_sem, Nat.reduceAdd, Nat.reduceMul, Nat.reduceEqDiff, Nat.reduceLeDiff, List.range_zero, List.drop_zero, List.nil_append, reduceIte]
          refine AIf_intro (fun hlt => ?_) (fun hge => ?_)
          · simp only [decide_eq_true_eq] at hlt
            simp only [go_sem, Nat.reduceAdd, Nat.reduceMul, Nat.reduceEqDiff, Nat.reduceLeDiff, List.range_zero, List.drop_zero, List.nil_append, reduceIte]
            refine aLoop_nat [6, 7, 11, 12, 13, 14] bn (fun q vs hh => h3 = hh ∧ (∀ j', j' < q → xo + a.off + (i : Nat) ≠ yo + b.off + (j' : Nat)) ∧ vs = [.ptr (h.length + 2) 11 0 0 [], .ptr (h.length + 3) 11 0 0 [], .ptr h2.length 3 0 0 [], .ptr (h2.length + 1) 3 0 0 [], I i, I q]) ?_ ?_
            · simp only [go_sem, Nat.reduceAdd, Nat.reduceMul, Nat.reduceEqDiff, Nat.reduceLeDiff, List.range_zero, List.drop_zero, List.nil_append, reduceIte]
              exact ⟨fun i' hi' => by omega, rfl⟩
            · rintro q vs hh hq - ⟨rfl, hne2, rfl⟩ I3 μ3 m3 hnx3
              simp only [hA3, hB3, hbn, ltI, go_sem, Nat.reduceAdd, Nat.reduceMul, Nat.reduceEqDiff, Nat.reduceLeDiff, List.range_zero, List.drop_zero, List.nil_append, reduceIte]
              refine AIf_intro (fun hlt2 => ?_) (fun hge2 => ?_)
              · simp only [decide_eq_true_eq] at hlt2
                have wa2 : IntKind.i64.wrap (xo + a.off + (i : Nat)) = xo + a.off + (i : Nat) := wrap_i64 (by omega) (by omega)
                have wb2 : IntKind.i64.wrap (yo + b.off + (q : Nat)) = yo + b.off + (q : Nat) := wrap_i64 (by omega) (by omega)
                simp only [hA3, hB3, hX3, hY3, wa1, wb1, wa2, wb2, go_sem, Nat.reduceAdd, Nat.reduceMul, Nat.reduceEqDiff, Nat.reduceLeDiff, List.range_zero, List.drop_zero, List.nil_append, reduceIte]
                refine AIf_intro (fun he => ?_) (fun he => ?_)
                · have he' : xo + a.off + (i : Nat) = yo + b.off + (q : Nat) := by simpa using he
                  simp only [go_sem, Nat.reduceAdd, Nat.reduceMul, Nat.reduceEqDiff, Nat.reduceLeDiff, List.range_zero, List.drop_zero, List.nil_append, reduceIte]
                  exact WRet.bool hext3 hK (by rw [em]; exact (hitsB_iff.2 ⟨i, hlt, q, hlt2, he'⟩).symm)
                · have he' : ¬ xo + a.off + (i : Nat) = yo + b.off + (q : Nat) := by simpa using he
                  simp only [inc64 hlt2 (by omega), go_sem, Nat.reduceAdd, Nat.reduceMul, Nat.reduceEqDiff, Nat.reduceLeDiff, List.range_zero, List.drop_zero, List.nil_append, reduceIte]
                  refine hnx3 _ _ hlt2 ⟨rfl, fun j' hj' => ?_, rfl⟩
                  by_cases e : j' = q
                  · subst e; exact he'
                  · exact hne2 j' (by omega)
              · simp only [decide_eq_false_iff_not] at hge2
                have hqq : q = bn := by omega
                subst hqq
                simp only [inc64 hlt (by omega), go_sem, Nat.reduceAdd, Nat.reduceMul, Nat.reduceEqDiff, Nat.reduceLeDiff, List.range_zero, List.drop_zero, List.nil_append, reduceIte]
                refine hnx2 _ _ hlt ⟨rfl, fun i' hi' => ?_, rfl⟩
                by_cases e : i' = i
                · subst e; exact hne2
                · exact hne i' (by omega)
          · simp only [decide_eq_false_iff_not] at hge
            have hii : i = an := by omega
            subst hii
            simp only [go_sem, Nat.reduceAdd, Nat.reduceMul, Nat.reduceEqDiff, Nat.reduceLeDiff, List.range_zero, List.drop_zero, List.nil_append, reduceIte]
            refine WRet.bool hext3 hK ?_
            rw [em]
            symm
            rw [Bool.eq_false_iff]
            intro hc
            obtain ⟨i', hi', j', hj', e⟩ := hitsB_iff.1 hc
            exact hne i' hi' j' hj' e
  · simp only [a5, a6, b5, go_sem, Nat.reduceAdd, Nat.reduceMul, Nat.reduceEqDiff, Nat.reduceLeDiff, List.range_zero, List.drop_zero, List.nil_append, reduceIte]
    refine aLoop_nat [4, 5, 6, 7, 9, 10] T (fun t vs hh => h2 = hh ∧ vs = [.ptr h.length 2 0 0 [], .ptr (h.length + 1) 6 0 0 [], .ptr (h.length + 2) 11 0 0 [], .ptr (h.length + 3) 11 0 0 [], B (bothB rj rk t), I t]) ?_ ?_
    · simp only [go_sem, Nat.reduceAdd, Nat.reduceMul, Nat.reduceEqDiff, Nat.reduceLeDiff, List.range_zero, List.drop_zero, List.nil_append, reduceIte]
      exact ⟨hh2, rfl⟩
    · rintro t vs hh ht - ⟨rfl, rfl⟩ I' μ m' hnx
      simp only [hS, hP, hA, hB, hsub0, hsub1, ho0, ho1, oT, ltI, go_sem, Nat.reduceAdd, Nat.reduceMul, Nat.reduceEqDiff, Nat.reduceLeDiff, List.range_zero, List.drop_zero, List.nil_append, reduceIte]
      refine AIf_intro (fun hlt => ?_) (fun hge => ?_)
      · simp only [decide_eq_true_eq] at hlt
        have hs1 := hbT t hlt
        have hlj : t < rj.length := by omega
        have hlk : t < rk.length := by omega
        have next : ∀ x, x = bothB rj rk (t + 1) → I' [.ptr h.length 2 0 0 [], .ptr (h.length + 1) 6 0 0 [], .ptr (h.length + 2) 11 0 0 [], .ptr (h.length + 3) 11 0 0 [], B x, I (t + 1 : Nat)] h2 ∧ μ [.ptr h.length 2 0 0 [], .ptr (h.length + 1) 6 0 0 [], .ptr (h.length + 2) 11 0 0 [], .ptr (h.length + 3) 11 0 0 [], B x, I (t + 1 : Nat)] h2 < m' := fun x e => hnx _ _ hlt ⟨rfl, by rw [e]⟩
        cases hbo : bothB rj rk t with
        | true =>
          simp only [inc64 hlt hT63, go_sem, Nat.reduceAdd, Nat.reduceMul, Nat.reduceEqDiff, Nat.reduceLeDiff, List.range_zero, List.drop_zero, List.nil_append, reduceIte]
          exact next _ (by rw [hs1, hbo]; rfl)
        | false =>
          simp only [hS, hP, hA, hB, hsub0, hsub1, ho0, ho1, hj, hk, hjb, hkb, gj, gk, toNatC, hlj, hlk, go_sem, Nat.reduceAdd, Nat.reduceMul, Nat.reduceEqDiff, Nat.reduceLeDiff, List.range_zero, List.drop_zero, List.nil_append, reduceIte]
          cases hx : rj.getD t false with
          | false =>
            simp only [inc64 hlt hT63, go_sem, Nat.reduceAdd, Nat.reduceMul, Nat.reduceEqDiff, Nat.reduceLeDiff, List.range_zero, List.drop_zero, List.nil_append, reduceIte]
            exact next _ (by rw [hs1, hbo, hx]; rfl)
          | true =>
            simp only [hS, hP, hA, hB, hsub0, hsub1, ho0, ho1, hj, hk, hjb, hkb, gj, gk, toNatC, hlj, hlk, inc64 hlt hT63, go_sem, Nat.reduceAdd, Nat.reduceMul, Nat.reduceEqDiff, Nat.reduceLeDiff, List.range_zero, List.drop_zero, List.nil_append, reduceIte]
            exact next _ (by rw [hs1, hbo, hx]; rfl)
      · simp only [decide_eq_false_iff_not] at hge
        have htt : t = T := by omega
        subst htt
        simp only [go_sem, Nat.reduceAdd, Nat.reduceMul, Nat.reduceEqDiff, Nat.reduceLeDiff, List.range_zero, List.drop_zero, List.nil_append, reduceIte]
        refine aw_drawn st19_8 mixed (by kernel_rfl) ?_
        have hPg : ∀ g, (h2 ++ g)[h.length + 1]? = some (some (AObj.arr 32 6 [p.enc])) := fun g => getApp hP
        have hAg : ∀ g, (h2 ++ g)[h.length + 2]? = some (some (AObj.arr 39 11 [a.enc])) := fun g => getApp hA
        have hBg : ∀ g, (h2 ++ g)[h.length + 3]? = some (some (AObj.arr 39 11 [b.enc])) := fun g => getApp hB
        simp only [hS, hP, hA, hB, hPg, hAg, hBg, go_sem, Nat.reduceAdd, Nat.reduceMul, Nat.reduceEqDiff, Nat.reduceLeDiff, List.range_zero, List.drop_zero, List.nil_append, reduceIte]
        refine run24 m p pb pl hg a.a _ _ ?_
        simp only [hS, hP, hA, hB, hPg, hAg, hBg, go_sem, Nat.reduceAdd, Nat.reduceMul, Nat.reduceEqDiff, Nat.reduceLeDiff, List.range_zero, List.drop_zero, List.nil_append, reduceIte]
        refine run24 m p pb pl hg b.a _ _ ?_
        generalize exactR p a.a = xa at *
        generalize exactR p b.a = xb at *
        have hEa : xa.enc3 = .agg [I xa.thing, I xa.off, B xa.is] := rfl
        have hEb : xb.enc3 = .agg [I xb.thing, I xb.off, B xb.is] := rfl
        rw [hEa, hEb]
        simp only [hS, hP, hA, hB, hPg, hAg, hBg, go_sem, Nat.reduceAdd, Nat.reduceMul, Nat.reduceEqDiff, Nat.reduceLeDiff, List.range_zero, List.drop_zero, List.nil_append, reduceIte]
        have hext : ∀ g, HExt h (h2 ++ g) := fun g => (hb2.app).ext
        cases hbo : bothB rj rk t with
        | false =>
          rw [hbo] at em
          simp only [go_sem, Nat.reduceAdd, Nat.reduceMul, Nat.reduceEqDiff, Nat.reduceLeDiff, List.range_zero, List.drop_zero, List.nil_append, reduceIte]
          exact WRet.bool (hext _) hK (by rw [em]; rfl)
        | true =>
        rw [hbo] at em
        obtain ⟨xt, xo, xs, xi⟩ := xa
        obtain ⟨yt, yo, ys, yi⟩ := xb
        cases xi with
        | false =>
          simp only [go_sem, Nat.reduceAdd, Nat.reduceMul, Nat.reduceEqDiff, Nat.reduceLeDiff, List.range_zero, List.drop_zero, List.nil_append, reduceIte]
          exact WRet.bool (hext _) hK (by rw [em]; rfl)
        | true =>
        simp only [go_sem, Nat.reduceAdd, Nat.reduceMul, Nat.reduceEqDiff, Nat.reduceLeDiff, List.range_zero, List.drop_zero, List.nil_append, reduceIte]
        cases yi with
        | false =>
          simp only [go_sem, Nat.reduceAdd, Nat.reduceMul, Nat.reduceEqDiff, Nat.reduceLeDiff, List.range_zero, List.drop_zero, List.nil_append, reduceIte]
          exact WRet.bool (hext _) hK (by rw [em]; simp)
        | true =>
        simp only [go_sem, Nat.reduceAdd, Nat.reduceMul, Nat.reduceEqDiff, Nat.reduceLeDiff, List.range_zero, List.drop_zero, List.nil_append, reduceIte]
        simp only [Bool.not_true, Bool.false_or, Bool.true_and] at em
        obtain ⟨an, han⟩ : ∃ q : Nat, a.size = q := ⟨a.size.toNat, by omega⟩
        obtain ⟨bn, hbn⟩ : ∃ q : Nat, b.size = q := ⟨b.size.toNat, by omega⟩
        rw [han, hbn, toNatC, toNatC] at em
        simp only at oa obb
        obtain ⟨h3, hh3⟩ : ∃ h3, h3 = h2 ++ [some (AObj.arr 57 3 [AV.agg [I xt, I xo, B true]]), some (AObj.arr 57 3 [AV.agg [I yt, I yo, B true]])] := ⟨_, rfl⟩
        have hA3 : h3[h.length + 2]? = some (some (AObj.arr 39 11 [a.enc])) := by rw [hh3]; exact getApp hA
        have hB3 : h3[h.length + 3]? = some (some (AObj.arr 39 11 [b.enc])) := by rw [hh3]; exact getApp hB
        have hX3 : h3[h2.length]? = some (some (AObj.arr 57 3 [AV.agg [I xt, I xo, B true]])) := by rw [hh3]; simp only [go_sem, Nat.reduceAdd, Nat.reduceMul, Nat.reduceEqDiff, Nat.reduceLeDiff, List.range_zero, List.drop_zero, List.nil_append, reduceIte]
        have hY3 : h3[h2.length + 1]? = some (some (AObj.arr 57 3 [AV.agg [I yt, I yo, B true]])) := by rw [hh3]; simp only [go_sem, Nat.reduceAdd, Nat.reduceMul, Nat.reduceEqDiff, Nat.reduceLeDiff, List.range_zero, List.drop_zero, List.nil_append, reduceIte]
        have hext3 : HExt h h3 := by rw [hh3]; exact hext _
        have wa1 : IntKind.i64.wrap (xo + a.off) = xo + a.off := wrap_i64 (by omega) (by omega)
        have wb1 : IntKind.i64.wrap (yo + b.off) = yo + b.off := wrap_i64 (by omega) (by omega)
        have hz0 : ((0 : Nat) : Int) = 0 := rfl
        refine aLoop_nat [6, 7, 11, 12, 13] an (fun i vs hh => h3 = hh ∧ (∀ i', i' < i → ∀ j', j' < bn → xo + a.off + (i' : Nat) ≠ yo + b.off + (j' : Nat)) ∧ vs = [.ptr (h.length + 2) 11 0 0 [], .ptr (h.length + 3) 11 0 0 [], .ptr h2.length 3 0 0 [], .ptr (h2.length + 1) 3 0 0 [], I i]) ?_ ?_
        · simp only [go_sem, Nat.reduceAdd, Nat.reduceMul, Nat.reduceEqDiff, Nat.reduceLeDiff, List.range_zero, List.drop_zero, List.nil_append, reduceIte]
          exact ⟨hh3, fun i' hi' => by omega, rfl⟩
        · rintro i vs hh hi - ⟨rfl, hne, rfl⟩ I2 μ2 m2 hnx2
          simp only [hA3, hB3, han, ltI, go_sem, Nat.reduceAdd, Nat.reduceMul, Nat.reduceEqDiff, Nat.reduceLeDiff, List.range_zero, List.drop_zero, List.nil_append, reduceIte]
          refine AIf_intro (fun hlt => ?_) (fun hge => ?_)
          · simp only [decide_eq_true_eq] at hlt
            simp only [go_sem, Nat.reduceAdd, Nat.reduceMul, Nat.reduceEqDiff, Nat.reduceLeDiff, List.range_zero, List.drop_zero, List.nil_append, reduceIte]
            refine aLoop_nat [6, 7, 11, 12, 13, 14] bn (fun q vs hh => h3 = hh ∧ (∀ j', j' < q → xo + a.off + (i : Nat) ≠ yo + b.off + (j' : Nat)) ∧ vs = [.ptr (h.length + 2) 11 0 0 [], .ptr (h.length + 3) 11 0 0 [], .ptr h2.length 3 0 0 [], .ptr (h2.length + 1) 3 0 0 [], I i, I q]) ?_ ?_
            · simp only [go_sem, Nat.reduceAdd, Nat.reduceMul, Nat.reduceEqDiff, Nat.reduceLeDiff, List.range_zero, List.drop_zero, List.nil_append, reduceIte]
              exact ⟨fun i' hi' => by omega, rfl⟩
            · rintro q vs hh hq - ⟨rfl, hne2, rfl⟩ I3 μ3 m3 hnx3
              simp only [hA3, hB3, hbn, ltI, go_sem, Nat.reduceAdd, Nat.reduceMul, Nat.reduceEqDiff, Nat.reduceLeDiff, List.range_zero, List.drop_zero, List.nil_append, reduceIte]
              refine AIf_intro (fun hlt2 => ?_) (fun hge2 => ?_)
              · simp only [decide_eq_true_eq] at hlt2
                have wa2 : IntKind.i64.wrap (xo + a.off + (i : Nat)) = xo + a.off + (i : Nat) := wrap_i64 (by omega) (by omega)
                have wb2 : IntKind.i64.wrap (yo + b.off + (q : Nat)) = yo + b.off + (q : Nat) := wrap_i64 (by omega) (by omega)
                simp only [hA3, hB3, hX3, hY3, wa1, wb1, wa2, wb2, go_sem, Nat.reduceAdd, Nat.reduceMul, Nat.reduceEqDiff, Nat.reduceLeDiff, List.range_zero, List.drop_zero, List.nil_append, reduceIte]
                refine AIf_intro (fun he => ?_) (fun he => ?_)
                · have he' : xo + a.off + (i : Nat) = yo + b.off + (q : Nat) := by simpa using he
                  simp only [go_sem, Nat.reduceAdd, Nat.reduceMul, Nat.reduceEqDiff, Nat.reduceLeDiff, List.range_zero, List.drop_zero, List.nil_append, reduceIte]
                  exact WRet.bool hext3 hK (by rw [em]; exact (hitsB_iff.2 ⟨i, hlt, q, hlt2, he'⟩).symm)
                · have he' : ¬ xo + a.off + (i : Nat) = yo + b.off + (q : Nat) := by simpa using he
                  simp only [inc64 hlt2 (by omega), go_sem, Nat.reduceAdd, Nat.reduceMul, Nat.reduceEqDiff, Nat.reduceLeDiff, List.range_zero, List.drop_zero, List.nil_append, reduceIte]
                  refine hnx3 _ _ hlt2 ⟨rfl, fun j' hj' => ?_, rfl⟩
                  by_cases e : j' = q
                  · subst e; exact he'
                  · exact hne2 j' (by omega)
              · simp only [decide_eq_false_iff_not] at hge2
                have hqq : q = bn := by omega
                subst hqq
                simp only [inc64 hlt (by omega), go_sem, Nat.reduceAdd, Nat.reduceMul, Nat.reduceEqDiff, Nat.reduceLeDiff, List.range_zero, List.drop_zero, List.nil_append, reduceIte]
                refine hnx2 _ _ hlt ⟨rfl, fun i' hi' => ?_, rfl⟩
                by_cases e : i' = i
                · subst e; exact hne2
                · exact hne i' (by omega)
          · simp only [decide_eq_false_iff_not] at hge
            have hii : i = an := by omega
            subst hii
            simp only [go_sem, Nat.reduceAdd, Nat.reduceMul, Nat.reduceEqDiff, Nat.reduceLeDiff, List.range_zero, List.drop_zero, List.nil_append, reduceIte]
            refine WRet.bool hext3 hK ?_
            rw [em]
            symm
            rw [Bool.eq_false_iff]
            intro hc
            obtain ⟨i', hi', j', hj', e⟩ := hitsB_iff.1 hc
            exact hne i' hi' j' hj' e
  · simp only [a5, a6, b5, b6, go_sem, Nat.reduceAdd, Nat.reduceMul, Nat.reduceEqDiff, Nat.reduceLeDiff, List.range_zero, List.drop_zero, List.nil_append, reduceIte]
    refine aLoop_nat [4, 5, 6, 7, 9, 10] T (fun t vs hh => h2 = hh ∧ vs = [.ptr h.length 2 0 0 [], .ptr (h.length + 1) 6 0 0 [], .ptr (h.length + 2) 11 0 0 [], .ptr (h.length + 3) 11 0 0 [], B (bothB rj rk t), I t]) ?_ ?_
    · simp only [go_sem, Nat.reduceAdd, Nat.reduceMul, Nat.reduceEqDiff, Nat.reduceLeDiff, List.range_zero, List.drop_zero, List.nil_append, reduceIte]
      exact ⟨hh2, rfl⟩
    · rintro t vs hh ht - ⟨rfl, rfl⟩ I' μ m' hnx
      simp only [hS, hP, hA, hB, hsub0, hsub1, ho0, ho1, oT, ltI, go_sem, Nat.reduceAdd, Nat.reduceMul, Nat.reduceEqDiff, Nat.reduceLeDiff, List.range_zero, List.drop_zero, List.nil_append, reduceIte]
      refine AIf_intro (fun hlt => ?_) (fun hge => ?_)
      · simp only [decide_eq_true_eq] at hlt
        have hs1 := hbT t hlt
        have hlj : t < rj.length := by omega
        have hlk : t < rk.length := by omega
        have next : ∀ x, x = bothB rj rk (t + 1) → I' [.ptr h.length 2 0 0 [], .ptr (h.length + 1) 6 0 0 [], .ptr (h.length + 2) 11 0 0 [], .ptr (h.length + 3) 11 0 0 [], B x, I (t + 1 : Nat)] h2 ∧ μ [.ptr h.length 2 0 0 [], .ptr (h.length + 1) 6 0 0 [], .ptr (h.length + 2) 11 0 0 [], .ptr (h.length + 3) 11 0 0 [], B x, I (t + 1 : Nat)] h2 < m' := fun x e => hnx _ _ hlt ⟨rfl, by rw [e]⟩
        cases hbo : bothB rj rk t with
        | true =>
          simp only [inc64 hlt hT63, go_sem, Nat.reduceAdd, Nat.reduceMul, Nat.reduceEqDiff, Nat.reduceLeDiff, List.range_zero, List.drop_zero, List.nil_append, reduceIte]
          exact next _ (by rw [hs1, hbo]; rfl)
        | false =>
          simp only [hS, hP, hA, hB, hsub0, hsub1, ho0, ho1, hj, hk, hjb, hkb, gj, gk, toNatC, hlj, hlk, go_sem, Nat.reduceAdd, Nat.reduceMul, Nat.reduceEqDiff, Nat.reduceLeDiff, List.range_zero, List.drop_zero, List.nil_append, reduceIte]
          cases hx : rj.getD t false with
          | false =>
            simp only [inc64 hlt hT63, go_sem, Nat.reduceAdd, Nat.reduceMul, Nat.reduceEqDiff, Nat.reduceLeDiff, List.range_zero, List.drop_zero, List.nil_append, reduceIte]
            exact next _ (by rw [hs1, hbo, hx]; rfl)
          | true =>
            simp only [hS, hP, hA, hB, hsub0, hsub1, ho0, ho1, hj, hk, hjb, hkb, gj, gk, toNatC, hlj, hlk, inc64 hlt hT63, go_sem, Nat.reduceAdd, Nat.reduceMul, Nat.reduceEqDiff, Nat.reduceLeDiff, List.range_zero, List.drop_zero, List.nil_append, reduceIte]
            exact next _ (by rw [hs1, hbo, hx]; rfl)
      · simp only [decide_eq_false_iff_not] at hge
        have htt : t = T := by omega
        subst htt
        simp only [go_sem, Nat.reduceAdd, Nat.reduceMul, Nat.reduceEqDiff, Nat.reduceLeDiff, List.range_zero, List.drop_zero, List.nil_append, reduceIte]
        refine aw_drawn st19_8 mixed (by kernel_rfl) ?_
        have hPg : ∀ g, (h2 ++ g)[h.length + 1]? = some (some (AObj.arr 32 6 [p.enc])) := fun g => getApp hP
        have hAg : ∀ g, (h2 ++ g)[h.length + 2]? = some (some (AObj.arr 39 11 [a.enc])) := fun g => getApp hA
        have hBg : ∀ g, (h2 ++ g)[h.length + 3]? = some (some (AObj.arr 39 11 [b.enc])) := fun g => getApp hB
        simp only [hS, hP, hA, hB, hPg, hAg, hBg, go_sem, Nat.reduceAdd, Nat.reduceMul, Nat.reduceEqDiff, Nat.reduceLeDiff, List.range_zero, List.drop_zero, List.nil_append, reduceIte]
        refine run24 m p pb pl hg a.a _ _ ?_
        simp only [hS, hP, hA, hB, hPg, hAg, hBg, go_sem, Nat.reduceAdd, Nat.reduceMul, Nat.reduceEqDiff, Nat.reduceLeDiff, List.range_zero, List.drop_zero, List.nil_append, reduceIte]
        refine run24 m p pb pl hg b.a _ _ ?_
        generalize exactR p a.a = xa at *
        generalize exactR p b.a = xb at *
        have hEa : xa.enc3 = .agg [I xa.thing, I xa.off, B xa.is] := rfl
        have hEb : xb.enc3 = .agg [I xb.thing, I xb.off, B xb.is] := rfl
        rw [hEa, hEb]
        simp only [hS, hP, hA, hB, hPg, hAg, hBg, go_sem, Nat.reduceAdd, Nat.reduceMul, Nat.reduceEqDiff, Nat.reduceLeDiff, List.range_zero, List.drop_zero, List.nil_append, reduceIte]
        have hext : ∀ g, HExt h (h2 ++ g) := fun g => (hb2.app).ext
        cases hbo : bothB rj rk t with
        | false =>
          rw [hbo] at em
          simp only [go_sem, Nat.reduceAdd, Nat.reduceMul, Nat.reduceEqDiff, Nat.reduceLeDiff, List.range_zero, List.drop_zero, List.nil_append, reduceIte]
          exact WRet.bool (hext _) hK (by rw [em]; rfl)
        | true =>
        rw [hbo] at em
        obtain ⟨xt, xo, xs, xi⟩ := xa
        obtain ⟨yt, yo, ys, yi⟩ := xb
        cases xi with
        | false =>
          simp only [go_sem, Nat.reduceAdd, Nat.reduceMul, Nat.reduceEqDiff, Nat.reduceLeDiff, List.range_zero, List.drop_zero, List.nil_append, reduceIte]
          exact WRet.bool (hext _) hK (by rw [em]; rfl)
        | true =>
        simp only [go_sem, Nat.reduceAdd, Nat.reduceMul, Nat.reduceEqDiff, Nat.reduceLeDiff, List.range_zero, List.drop_zero, List.nil_append, reduceIte]
        cases yi with
        | false =>
          simp only [go_sem, Nat.reduceAdd, Nat.reduceMul, Nat.reduceEqDiff, Nat.reduceLeDiff, List.range_zero, List.drop_zero, List.nil_append, reduceIte]
          exact WRet.bool (hext _) hK (by rw [em]; simp)
        | true =>
        simp only [go_sem, Nat.reduceAdd, Nat.reduceMul, Nat.reduceEqDiff, Nat.reduceLeDiff, List.range_zero, List.drop_zero, List.nil_append, reduceIte]
        simp only [Bool.not_true, Bool.false_or, Bool.true_and] at em
        obtain ⟨an, han⟩ : ∃ q : Nat, a.size = q := ⟨a.size.toNat, by omega⟩
        obtain ⟨bn, hbn⟩ : ∃ q : Nat, b.size = q := ⟨b.size.toNat, by omega⟩
        rw [han, hbn, toNatC, toNatC] at em
        simp only at oa obb
        obtain ⟨h3, hh3⟩ : ∃ h3, h3 = h2 ++ [some (AObj.arr 57 3 [AV.agg [I xt, I xo, B true]]), some (AObj.arr 57 3 [AV.agg [I yt, I yo, B true]])] := ⟨_, rfl⟩
        have hA3 : h3[h.length + 2]? = some (some (AObj.arr 39 11 [a.enc])) := by rw [hh3]; exact getApp hA
        have hB3 : h3[h.length + 3]? = some (some (AObj.arr 39 11 [b.enc])) := by rw [hh3]; exact getApp hB
        have hX3 : h3[h2.length]? = some (some (AObj.arr 57 3 [AV.agg [I xt, I xo, B true]])) := by rw [hh3]; simp only [go_sem, Nat.reduceAdd, Nat.reduceMul, Nat.reduceEqDiff, Nat.reduceLeDiff, List.range_zero, List.drop_zero, List.nil_append, reduceIte]
        have hY3 : h3[h2.length + 1]? = some (some (AObj.arr 57 3 [AV.agg [I yt, I yo, B true]])) := by rw [hh3]; simp only [go_sem, Nat.reduceAdd, Nat.reduceMul, Nat.reduceEqDiff, Nat.reduceLeDiff, List.range_zero, List.drop_zero, List.nil_append, reduceIte]
        have hext3 : HExt h h3 := by rw [hh3]; exact hext _
        have wa1 : IntKind.i64.wrap (xo + a.off) = xo + a.off := wrap_i64 (by omega) (by omega)
        have wb1 : IntKind.i64.wrap (yo + b.off) = yo + b.off := wrap_i64 (by omega) (by omega)
        have hz0 : ((0 : Nat) : Int) = 0 := rfl
        refine aLoop_nat [6, 7, 11, 12, 13] an (fun i vs hh => h3 = hh ∧ (∀ i', i' < i → ∀ j', j' < bn → xo + a.off + (i' : Nat) ≠ yo + b.off + (j' : Nat)) ∧ vs = [.ptr (h.length + 2) 11 0 0 [], .ptr (h.length + 3) 11 0 0 [], .ptr h2.length 3 0 0 [], .ptr (h2.length + 1) 3 0 0 [], I i]) ?_ ?_
        · simp only [go_sem, Nat.reduceAdd, Nat.reduceMul, Nat.reduceEqDiff, Nat.reduceLeDiff, List.range_zero, List.drop_zero, List.nil_append, reduceIte]
          exact ⟨hh3, fun i' hi' => by omega, rfl⟩
        · rintro i vs hh hi - ⟨rfl, hne, rfl⟩ I2 μ2 m2 hnx2
          simp only [hA3, hB3, han, ltI, go_sem, Nat.reduceAdd, Nat.reduceMul, Nat.reduceEqDiff, Nat.reduceLeDiff, List.range_zero, List.drop_zero, List.nil_append, reduceIte]
          refine AIf_intro (fun hlt => ?_) (fun hge => ?_)
          · simp only [decide_eq_true_eq] at hlt
            simp only [go_sem, Nat.reduceAdd, Nat.reduceMul, Nat.reduceEqDiff, Nat.reduceLeDiff, List.range_zero, List.drop_zero, List.nil_append, reduceIte]
            refine aLoop_nat [6, 7, 11, 12, 13, 14] bn (fun q vs hh => h3 = hh ∧ (∀ j', j' < q → xo + a.off + (i : Nat) ≠ yo + b.off + (j' : Nat)) ∧ vs = [.ptr (h.length + 2) 11 0 0 [], .ptr (h.length + 3) 11 0 0 [], .ptr h2.length 3 0 0 [], .ptr (h2.length + 1) 3 0 0 [], I i, I q]) ?_ ?_
            · simp only [go_sem, Nat.reduceAdd, Nat.reduceMul, Nat.reduceEqDiff, Nat.reduceLeDiff, List.range_zero, List.drop_zero, List.nil_append, reduceIte]
              exact ⟨fun i' hi' => by omega, rfl⟩
            · rintro q vs hh hq - ⟨rfl, hne2, rfl⟩ I3 μ3 m3 hnx3
              simp only [hA3, hB3, hbn, ltI, go_sem, Nat.reduceAdd, Nat.reduceMul, Nat.reduceEqDiff, Nat.reduceLeDiff, List.range_zero, List.drop_zero, List.nil_append, reduceIte]
              refine AIf_intro (fun hlt2 => ?_) (fun hge2 => ?_)
              · simp only [decide_eq_true_eq] at hlt2
                have wa2 : IntKind.i64.wrap (xo + a.off + (i : Nat)) = xo + a.off + (i : Nat) := wrap_i64 (by omega) (by omega)
                have wb2 : IntKind.i64.wrap (yo + b.off + (q : Nat)) = yo + b.off + (q : Nat) := wrap_i64 (by omega) (by omega)
                simp only [hA3, hB3, hX3, hY3, wa1, wb1, wa2, wb2, go_sem, Nat.reduceAdd, Nat.reduceMul, Nat.reduceEqDiff, Nat.reduceLeDiff, List.range_zero, List.drop_zero, List.nil_append, reduceIte]
                refine AIf_intro (fun he => ?_) (fun he => ?_)
                · have he' : xo + a.off + (i : Nat) = yo + b.off + (q : Nat) := by simpa using he
                  simp only [go_sem, Nat.reduceAdd, Nat.reduceMul, Nat.reduceEqDiff, Nat.reduceLeDiff, List.range_zero, List.drop_zero, List.nil_append, reduceIte]
                  exact WRet.bool hext3 hK (by rw [em]; exact (hitsB_iff.2 ⟨i, hlt, q, hlt2, he'⟩).symm)
                · have he' : ¬ xo + a.off + (i : Nat) = yo + b.off + (q : Nat) := by simpa using he
                  simp only [inc64 hlt2 (by omega), go_sem, Nat.reduceAdd, Nat.reduceMul, Nat.reduceEqDiff, Nat.reduceLeDiff, List.range_zero, List.drop_zero, List.nil_append, reduceIte]
                  refine hnx3 _ _ hlt2 ⟨rfl, fun j' hj' => ?_, rfl⟩
                  by_cases e : j' = q
                  · subst e; exact he'
                  · exact hne2 j' (by omega)
              · simp only [decide_eq_false_iff_not] at hge2
                have hqq : q = bn := by omega
                subst hqq
                simp only [inc64 hlt (by omega), go_sem, Nat.reduceAdd, Nat.reduceMul, Nat.reduceEqDiff, Nat.reduceLeDiff, List.range_zero, List.drop_zero, List.nil_append, reduceIte]
                refine hnx2 _ _ hlt ⟨rfl, fun i' hi' => ?_, rfl⟩
                by_cases e : i' = i
                · subst e; exact hne2
                · exact hne i' (by omega)
          · simp only [decide_eq_false_iff_not] at hge
            have hii : i = an := by omega
            subst hii
            simp only [go_sem, Nat.reduceAdd, Nat.reduceMul, Nat.reduceEqDiff, Nat.reduceLeDiff, List.range_zero, List.drop_zero, List.nil_append, reduceIte]
            refine WRet.bool hext3 hK ?_
            rw [em]
            symm
            rw [Bool.eq_false_iff]
            intro hc
            obtain ⟨i', hi', j', hj', e⟩ := hitsB_iff.1 hc
            exact hne i' hi' j' hj' e
end Go.Am
