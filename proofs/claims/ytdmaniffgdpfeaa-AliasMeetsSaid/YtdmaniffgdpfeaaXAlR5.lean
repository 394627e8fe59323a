/- A part of the proof that AliasThings and AliasMeets return true for every module: texts on an abstract reading of the code (AlR5). -/
import Derived.Test.YtdmaniffgdpfeaaXAmSt2
set_option linter.unusedVariables false
set_option linter.unusedSimpArgs false
set_option linter.unusedSectionVars false
set_option maxRecDepth 100000
set_option maxHeartbeats 1000000
set_option linter.unusedSimpArgs false
set_option linter.unusedVariables false
namespace Go.Am
open Go Go.Proofs
attribute [go_sem] kLoopF_normal kLoopF_exit kLoopF_ret
theorem FrzSL.refl {S : Nat → Prop} {h : Heap} : ∀ (l : List AV), FrzSL S h l l
  | [] => .nil
  | x :: l => .cons (.pure x) (FrzSL.refl l)
theorem FrzH.refl {h : Heap} : FrzH (fun _ => False) h h := ⟨rfl, fun o h => h.elim, fun o ob h => ⟨ob, h, .same ob⟩, fun o _ h => h⟩
theorem FzV.refl {J : List AV → Heap → Prop} {vs : List AV} {h : Heap} (hj : J vs h) : FzV J vs h := ⟨fun _ => False, vs, h, .refl vs, .refl, hj⟩
/-- one object is written no more, and another one knows it -/
theorem FrzH.two {h : Heap} {lo rr e sz : Nat} {xs ys : List AV} (hne : lo ≠ rr) (ho : h[rr]? = some (some (.arr e sz xs))) (hl : ys.length = xs.length) (hu : ∀ y ∈ ys, (flat y).length = sz ∧ storable y = true) (hf : FrzSL (fun o => o = lo) h xs ys) :
    FrzH (fun o => o = lo) h ((h.set lo Option.none).set rr (some (.arr e sz ys))) := by
  have hlr := lt_of ho
  refine ⟨by simp, ?_, fun o ob hob => ?_, fun o hs hn => ?_⟩
  · rintro o rfl ob hob
    rw [getS_ne (Ne.symm hne), List.getElem?_set, if_pos rfl] at hob
    split at hob <;> simp at hob
  · by_cases e : rr = o
    · subst e
      rw [getS_eq (by simpa using hlr)] at hob
      cases hob
      exact ⟨_, ho, .arr _ _ xs ys hl hu hf⟩
    · rw [getS_ne e] at hob
      by_cases e2 : lo = o
      · subst e2
        rw [List.getElem?_set, if_pos rfl] at hob
        split at hob <;> simp at hob
      · rw [getS_ne e2] at hob
        exact ⟨ob, hob, .same ob⟩
  · by_cases e : rr = o
    · subst e
      rw [getS_eq (by simpa using hlr)] at hn
      simp at hn
    · rw [getS_ne e, getS_ne (Ne.symm hs)] at hn
      exact hn
/-- a counted loop, behind each round of which some is written no more -/
theorem aLoop_natF {P c tm h} {K : Kont} (sl : List Nat) (n : Nat) (I : Nat → List AV → Heap → Prop) (h0 : FzV (I 0) (gets tm sl) h)
   (hr : ∀ k vs h, k ≤ n → vs.length = sl.length → I k vs h → ∀ (I' : List AV → Heap → Prop) μ m, (∀ vs h, k < n → I (k + 1) vs h → I' vs h ∧ μ vs h < m) → aw P c (mkT tm.length (sl.zip vs)) h (kLoopF sl I' μ m K)) : aLoop P c tm h K := by
  obtain ⟨S, vs0, h0', f1, f2, f3⟩ := h0
  refine aLoop_frz sl (fun vs h => ∃ k, k ≤ n ∧ I k vs h) (fun vs h => minOf fun m => ∃ k, k ≤ n ∧ I k vs h ∧ m = n - k) ⟨S, vs0, h0', f1, f2, 0, Nat.zero_le _, f3⟩ ?_
  rintro vs h1 hvl ⟨k0, hk0, hI0⟩
  obtain ⟨⟨k, hk, hI, he⟩, -⟩ := minOf_spec (S := fun m => ∃ k, k ≤ n ∧ I k vs h1 ∧ m = n - k) ⟨n - k0, k0, hk0, hI0, rfl⟩
  refine hr k vs h1 hk hvl hI _ _ _ fun vs' h' hlt hI' => ⟨⟨k + 1, hlt, hI'⟩, ?_⟩
  have := (minOf_spec (S := fun m => ∃ k, k ≤ n ∧ I k vs' h' ∧ m = n - k) ⟨n - (k + 1), k + 1, hlt, hI', rfl⟩).2 (n - (k + 1)) ⟨k + 1, hlt, hI', rfl⟩
  omega
/-- a heap behind a push -/
structure PushF (hh : Heap) (x : Nat) (V : Option AObj) (Y : Heap) (rr : Option Nat) (a c : Option AObj) : Prop where
  len : Y.length = hh.length + 3
  hx : Y[x]? = some V
  hc : Y[hh.length + 2]? = some c
  ha : Y[hh.length]? = some a
  same : ∀ o : Nat, o < hh.length → o ≠ x → some o ≠ rr → Y[o]? = hh[o]?
theorem PushF.zero {hh : Heap} {x : Nat} {V a b c : Option AObj} (hx : x < hh.length) : PushF hh x V ((hh ++ [a, b, c]).set x V) none a c :=
  ⟨by simp, getS_eq (by simp; omega), by rw [getS_ne (by omega)]; simp, by rw [getS_ne (by omega)]; simp, fun o ho hne _ => by rw [getS_ne (Ne.symm hne), List.getElem?_append_left ho]⟩
theorem PushF.succ {hh : Heap} {x rr : Nat} {V a b c : Option AObj} (hx : x < hh.length) (hr : rr < hh.length) : PushF hh x V ((((hh ++ [a, b]).set rr Option.none) ++ [c]).set x V) (some rr) a c := by
  refine ⟨by simp, getS_eq (by simp; omega), ?_, ?_, fun o ho hne hne2 => ?_⟩
  · rw [getS_ne (by omega), List.getElem?_append_right (by simp)]; simp
  · rw [getS_ne (by omega), List.getElem?_append_left (by simp), getS_ne (by omega)]; simp
  · rw [getS_ne (Ne.symm hne), List.getElem?_append_left (by simp; omega), getS_ne (fun e => hne2 (by rw [e])), List.getElem?_append_left ho]
/-- what is left of a push, once the row is written no more -/
theorem PushF.two {hh : Heap} {x : Nat} {V : Option AObj} {Y : Heap} {rr : Option Nat} {a c c' : Option AObj} (F : PushF hh x V Y rr a c) (hx : x < hh.length) : PushF hh x V ((Y.set hh.length Option.none).set (hh.length + 2) c') rr Option.none c' := by
  have hl := F.len
  refine ⟨by simp [hl], ?_, getS_eq (by simp; omega), ?_, fun o ho hne hr => ?_⟩
  · rw [getS_ne (by omega), getS_ne (by omega)]; exact F.hx
  · rw [getS_ne (by omega), getS_eq (by omega)]
  · rw [getS_ne (by omega), getS_ne (by omega)]; exact F.same o ho hne hr
def BSt.enc (st : BSt) : AV := .agg [.il 1 (st.regs.map boolIl), boolIl st.out]
structure BDone (m : MMod) (p : MProc) (k : Nat) (st : BSt) : Prop where
  wf : st.WF k (p.top m)
  R : ∀ r t, (st.regs.getD r []).getD t false = true ↔ (r < k ∧ LR m p r t)
  O : ∀ t, st.out.getD t false = true ↔ LO m p t
theorem run18 (m : MMod) (p : MProc) (pb : ProcB p m) (pl : p.Lens) (hg : m.globals.length ≤ 200) (h : Heap) (K) (hK : ∀ st, BDone m p p.regs.toNat st → K st.enc h) : RunsK Try.prog 18 [m.enc, p.enc] h K := by
  refine RunsK.intro Try.func18 rfl (by decide) (by simp only [Try.f18, go_sem]; decide) ?_
  simp only [Try.f18]
  obtain ⟨n, hn⟩ : ∃ k : Nat, p.regs = k := ⟨p.regs.toNat, by have := pb.params; omega⟩
  have hn8 := pb.regs
  have hob := pb.objects
  have hpar := pb.params
  obtain ⟨T, hT⟩ : ∃ T, T = p.top m := ⟨_, rfl⟩
  have hTe : T = p.objects.length + m.globals.length + 1 := hT
  have hro : ARoom T 1 := ⟨by omega, by omega⟩
  have hw1 : IntKind.i64.wrap (IntKind.i64.wrap ((p.objects.length : Int) + m.globals.length) + 1) = ((T : Nat) : Int) := by
    rw [wrap_i64 (n := (p.objects.length : Int) + m.globals.length) (by omega) (by omega), wrap_i64 (by omega) (by omega)]; omega
  simp only [hw1, toNatC, hro, go_sem, Nat.reduceAdd, Nat.reduceMul, Nat.reduceEqDiff, Nat.reduceLeDiff, List.range_zero, List.drop_zero, List.nil_append, reduceIte]
  have hrep : List.replicate T (AV.val (Value.bool false)) = (List.replicate T false).map B := by rw [List.map_replicate]
  rw [hrep]
  refine aLoop_nat [3, 4, 5, 6, 7] (T - p.objects.length) (fun j vs hh => ∃ l : List Bool, hh = h ++ [some (AObj.arr 26 4 [m.enc]), some (AObj.arr 32 6 [p.enc]), some (AObj.arr 47 2 [.agg [.val (.slice none 0 0), .val (.slice none 0 0)]]), some (AObj.arr 4 1 (l.map B)), some (AObj.arr 47 2 [.agg [.val (.slice none 0 0), .sl (h.length + 3) 1 0 T (some T)]])] ∧
    l.length = T ∧ (∀ t, l.getD t false = decide (p.objects.length ≤ t ∧ t < p.objects.length + j)) ∧ vs = [.ptr (h.length + 1) 6 0 0 [], .ptr (h.length + 2) 2 0 0 [], I T, .ptr (h.length + 4) 2 0 0 [], I (p.objects.length + j : Nat)]) ?_ ?_
  · simp only [go_sem, Nat.reduceAdd, Nat.reduceMul, Nat.reduceEqDiff, Nat.reduceLeDiff, List.range_zero, List.drop_zero, List.nil_append, reduceIte]
    refine ⟨_, rfl, by simp, fun t => ?_⟩
    by_cases ht : t < T
    · simp [List.getD, ht] <;> omega
    · simp [List.getD, List.getElem?_eq_none, ht] <;> omega
  · rintro j vs hh hj - ⟨l, rfl, hll, hls, rfl⟩ I' μ m' hnx
    simp only [ltI, go_sem, Nat.reduceAdd, Nat.reduceMul, Nat.reduceEqDiff, Nat.reduceLeDiff, List.range_zero, List.drop_zero, List.nil_append, reduceIte]
    refine AIf_intro (fun hlt => ?_) (fun hge => ?_)
    · simp only [decide_eq_true_eq] at hlt
      have hjl : p.objects.length + j < l.length := by omega
      have hgd := getD_map B l hjl
      have e : (l.map B).set (p.objects.length + j) (B true) = (l.set (p.objects.length + j) true).map B := by rw [List.map_set]
      simp only [bnd (a := p.objects.length + j) (n := T) hlt, toNatC, hjl, List.length_map, hgd, e, inc64 (n := p.objects.length + j) hlt (by omega), go_sem, Nat.reduceAdd, Nat.reduceMul, Nat.reduceEqDiff, Nat.reduceLeDiff, List.range_zero, List.drop_zero, List.nil_append, reduceIte]
      refine hnx _ _ (by omega) ⟨_, rfl, by simpa using hll, fun t => ?_, rfl⟩
      by_cases ht : t = p.objects.length + j
      · subst ht
        rw [show (l.set (p.objects.length + j) true).getD (p.objects.length + j) false = true by simp [List.getD, hjl]]
        symm; simp
      · rw [show (l.set (p.objects.length + j) true).getD t false = l.getD t false by simp only [List.getD, List.getElem?_set, if_neg (Ne.symm ht)], hls, Bool.eq_iff_iff]
        simp only [decide_eq_true_eq]
        omega
    · simp only [decide_eq_false_iff_not] at hge
      have hjT : p.objects.length + j = T := by omega
      rw [hjT]
      rw [hjT] at hls
      simp only [go_sem, Nat.reduceAdd, Nat.reduceMul, Nat.reduceEqDiff, Nat.reduceLeDiff, List.range_zero, List.drop_zero, List.nil_append, reduceIte]
      clear hnx
      have hlen5 : ∀ (g : Heap), (h ++ g)[h.length + 3]? = g[3]? := fun g => hgetS
      have start : ∀ (h1 : Heap), h1 = h ++ [some (AObj.arr 26 4 [m.enc]), some (AObj.arr 32 6 [p.enc]), some (AObj.arr 47 2 [.agg [.val (.slice none 0 0), .val (.slice none 0 0)]]), some (AObj.arr 4 1 (l.map B)), some (AObj.arr 47 2 [.agg [.val (.slice none 0 0), .sl (h.length + 3) 1 0 T (some T)]])] →
          FrzH (fun o => o = h.length + 3) h1 ((h1.set (h.length + 3) none).set (h.length + 4) (some (AObj.arr 47 2 [.agg [.val (.slice none 0 0), boolIl l]]))) := by
        rintro h1 rfl
        refine FrzH.two (lo := h.length + 3) (rr := h.length + 4) (xs := [.agg [.val (.slice none 0 0), .sl (h.length + 3) 1 0 T (some T)]]) (by omega) (by simp only [go_sem, Nat.reduceAdd, Nat.reduceMul, Nat.reduceEqDiff, Nat.reduceLeDiff, List.range_zero, List.drop_zero, List.nil_append, reduceIte]) rfl (by intro y hy; simp at hy; subst hy; exact ⟨rfl, by simp [storable, flat, flats, leafOk, boolIl]⟩) (.cons (.agg _ _ rfl fun i x y hx hy => ?_) .nil)
        match i with
        | 0 => simp at hx hy; subst hx; subst hy; exact .pure _
        | 1 =>
          simp at hx hy; subst hx; subst hy
          refine .sl _ _ _ _ _ 4 (l.map B) (l.map B) (by simp only [go_sem, Nat.reduceAdd, Nat.reduceMul, Nat.reduceEqDiff, Nat.reduceLeDiff, List.range_zero, List.drop_zero, List.nil_append, reduceIte]) rfl (by simp [hll]) (by simp [hll]) (fun y hy => ?_) fun i x y hx hy => ?_
          · obtain ⟨b, -, rfl⟩ := List.mem_map.1 hy; exact ⟨rfl, rfl⟩
          · rw [Nat.zero_add] at hx; rw [hx] at hy; cases hy; exact .pure _
        | i + 2 => simp at hx
      obtain ⟨h5, hh5⟩ : ∃ h5, h5 = h ++ [some (AObj.arr 26 4 [m.enc]), some (AObj.arr 32 6 [p.enc]), some (AObj.arr 47 2 [.agg [.val (.slice none 0 0), .val (.slice none 0 0)]]), none] := ⟨_, rfl⟩
      have h5l : h5.length = h.length + 4 := by rw [hh5]; simp
      have hb5 : HB h h5 := by rw [hh5]; exact HB.refl.app
      have hp5 : h5[h.length + 1]? = some (some (AObj.arr 32 6 [p.enc])) := by rw [hh5]; simp only [go_sem, Nat.reduceAdd, Nat.reduceMul, Nat.reduceEqDiff, Nat.reduceLeDiff, List.range_zero, List.drop_zero, List.nil_append, reduceIte]
      have hz5 : h5[h.length + 2]? = some (some (AObj.arr 47 2 [.agg [.val (.slice none 0 0), .val (.slice none 0 0)]])) := by rw [hh5]; simp only [go_sem, Nat.reduceAdd, Nat.reduceMul, Nat.reduceEqDiff, Nat.reduceLeDiff, List.range_zero, List.drop_zero, List.nil_append, reduceIte]
      refine aLoop_natF [3, 4, 5, 6, 8] n (fun j vs hh => ∃ (ra : AV) (rr : Nat) (rows : List (List Bool)), hh[h.length + 4]? = some (some (allObj ra l)) ∧ ((j = 0 ∧ ra = .val (.slice none 0 0)) ∨ (j ≠ 0 ∧ ra = .sl rr 1 0 j none ∧ hh[rr]? = some (some (AObj.arr 45 1 (rows.map boolIl))) ∧ h.length + 5 ≤ rr)) ∧
        rows.length = j ∧ (∀ r ∈ rows, r.length = T) ∧ (∀ r t, r < j → (rows.getD r []).getD t false = (decide ((r : Int) < p.params) && l.getD t false)) ∧ HB h5 hh ∧ h.length + 5 ≤ hh.length ∧
        vs = [.ptr (h.length + 1) 6 0 0 [], .ptr (h.length + 2) 2 0 0 [], I T, .ptr (h.length + 4) 2 0 0 [], I j]) ?_ ?_
      · refine ⟨_, _, _, .refl _, start _ rfl, .val (.slice none 0 0), 0, [], by simp only [go_sem, Nat.reduceAdd, Nat.reduceMul, Nat.reduceEqDiff, Nat.reduceLeDiff, List.range_zero, List.drop_zero, List.nil_append, reduceIte], .inl ⟨rfl, rfl⟩, rfl, by simp, fun r t hr => by omega, ?_, by simp, rfl⟩
        rw [hh5]
        refine ⟨by simp, fun o ho => ?_⟩
        rw [List.length_append] at ho
        by_cases e : o = h.length + 3
        · subst e; simp only [go_sem, Nat.reduceAdd, Nat.reduceMul, Nat.reduceEqDiff, Nat.reduceLeDiff, List.range_zero, List.drop_zero, List.nil_append, reduceIte]
        · rw [getS_ne (by simp at ho; omega), getS_ne (by omega)]
          by_cases ho2 : o < h.length
          · rw [List.getElem?_append_left ho2, List.getElem?_append_left ho2]
          · obtain ⟨d, rfl⟩ : ∃ d, o = h.length + d := ⟨o - h.length, by omega⟩
            rw [hgetS, hgetS]
            simp at ho
            match d with
            | 0 => rfl
            | 1 => rfl
            | 2 => rfl
            | 3 => exact (e rfl).elim
            | d + 4 => omega
      · rintro j vs hh hj2 - ⟨ra, rr, rows, hxo, hra, hrl, hrow, hrs, hb, hl5, rfl⟩ I2 μ2 m2 hnx2
        have hpb := (hb.2 _ (by omega : h.length + 1 < h5.length)).trans hp5
        have hxA : ∀ g, (hh ++ g)[h.length + 4]? = _ := fun g => getApp hxo
        have hpA : ∀ g, (hh ++ g)[h.length + 1]? = _ := fun g => getApp hpb
        simp only [ltI, hpb, hn, go_sem, Nat.reduceAdd, Nat.reduceMul, Nat.reduceEqDiff, Nat.reduceLeDiff, List.range_zero, List.drop_zero, List.nil_append, reduceIte]
        have hxl := lt_of hxo
        have next : ∀ (Y : Heap) (row : List Bool) (ro : Option Nat) (a c : Option AObj), (∀ q, ro = some q → h.length + 5 ≤ q) → c = some (AObj.arr 45 1 ((rows ++ [row]).map boolIl)) → row.length = T → (∀ t, row.getD t false = (decide ((j : Int) < p.params) && l.getD t false)) →
            PushF hh (h.length + 4) (some (allObj (.sl (hh.length + 2) 1 0 (j + 1) none) l)) Y ro a c → j < n →
            (I2 [.ptr (h.length + 1) 6 0 0 [], .ptr (h.length + 2) 2 0 0 [], I T, .ptr (h.length + 4) 2 0 0 [], I (j + 1 : Nat)] Y ∧ μ2 [.ptr (h.length + 1) 6 0 0 [], .ptr (h.length + 2) 2 0 0 [], I T, .ptr (h.length + 4) 2 0 0 [], I (j + 1 : Nat)] Y < m2) := by
          rintro Y row ro a c hro rfl hrl2 hrs2 F hlt
          refine hnx2 _ _ hlt ⟨_, hh.length + 2, rows ++ [row], F.hx, .inr ⟨by omega, rfl, F.hc, by omega⟩, by simp [hrl], fun r hr => ?_, fun r t hr => ?_, ⟨by rw [F.len]; omega, fun o ho => ?_⟩, by rw [F.len]; omega, rfl⟩
          · rcases List.mem_append.1 hr with hr | hr
            · exact hrow r hr
            · simp at hr; subst hr; exact hrl2
          · by_cases e : r < j
            · rw [show (rows ++ [row]).getD r [] = rows.getD r [] by simp [List.getD, List.getElem?_append_left (show r < rows.length by omega)]]
              exact hrs r t e
            · have : r = j := by omega
              subst this
              rw [show (rows ++ [row]).getD r [] = row by simp [List.getD, hrl]]
              exact hrs2 t
          · rw [F.same o (by omega) (by omega) (fun e => by have := hro o e.symm; omega)]
            exact hb.2 o ho
        refine AIf_intro (fun hlt => ?_) (fun hge => ?_)
        · simp only [decide_eq_true_eq] at hlt
          have hwj : IntKind.i64.wrap ((j : Int) + 1) = ((j + 1 : Nat) : Int) := inc64 hlt (by omega)
          have rm : ARoom (j + 1) 24 := ⟨by omega, by omega⟩
          have rm1 : ARoom 1 24 := ⟨by omega, by omega⟩
          simp only [toNatC, hro, hrep, hpA, go_sem, Nat.reduceAdd, Nat.reduceMul, Nat.reduceEqDiff, Nat.reduceLeDiff, List.range_zero, List.drop_zero, List.nil_append, reduceIte]
          refine AIf_intro (fun hp => ?_) (fun hp => ?_)
          · rcases hra with ⟨h0, rfl⟩ | ⟨h0, rfl, hor, hge⟩
            · have hr0 : rows = [] := List.length_eq_zero_iff.1 (by omega)
              simp only [hxA, hp, rm1, hwj, go_sem, Nat.reduceAdd, Nat.reduceMul, Nat.reduceEqDiff, Nat.reduceLeDiff, List.range_zero, List.drop_zero, List.nil_append, reduceIte]
              refine FzV.refl ?_
              refine next _ l none (some (AObj.arr 4 1 ((List.replicate T false).map B))) (some (AObj.arr 45 1 [boolIl l])) (fun q hq => by cases hq) ?_ hll (fun t => by rw [hp]; rfl) (?_ : PushF hh (h.length + 4) _ _ _ _ _) hlt
              rotate_left
              · rw [h0]; exact PushF.zero hxl
              · rw [hr0]; rfl
            · have hol := lt_of hor
              have horA : ∀ g, (hh ++ g)[rr]? = _ := fun g => getApp hor
              have hne : rr ≠ h.length + 4 := by rintro e; rw [e, hxo] at hor; cases hor
              have hvS : ∀ a g, (((hh ++ a).set rr none) ++ g)[h.length + 4]? = _ := fun a g => getApp (by rw [getS_ne hne]; exact hxA a)
              have htk : (rows.map boolIl).take j = rows.map boolIl := List.take_of_length_le (by simp [hrl])
              simp only [hxA, hp, horA, hvS, htk, rm, hwj, List.length_map, hrl, Nat.le_refl, go_sem, Nat.reduceAdd, Nat.reduceMul, Nat.reduceEqDiff, Nat.reduceLeDiff, List.range_zero, List.drop_zero, List.nil_append, reduceIte]
              refine FzV.refl ?_
              refine next _ l (some rr) (some (AObj.arr 4 1 ((List.replicate T false).map B))) (some (AObj.arr 45 1 (rows.map boolIl ++ [boolIl l]))) (fun q hq => by cases hq; exact hge) ?_ hll (fun t => by rw [hp]; rfl) (?_ : PushF hh (h.length + 4) _ _ _ _ _) hlt
              rotate_left
              · exact PushF.succ hxl hol
              · rw [List.map_append]; rfl
          · rcases hra with ⟨h0, rfl⟩ | ⟨h0, rfl, hor, hge⟩
            · have hr0 : rows = [] := List.length_eq_zero_iff.1 (by omega)
              simp only [hxA, hp, rm1, hwj, go_sem, Nat.reduceAdd, Nat.reduceMul, Nat.reduceEqDiff, Nat.reduceLeDiff, List.range_zero, List.drop_zero, List.nil_append, reduceIte]
              have F := PushF.zero (hh := hh) (x := h.length + 4) (V := some (allObj (.sl (hh.length + 2) 1 0 1 none) l)) (a := some (AObj.arr 4 1 ((List.replicate T false).map B))) (b := some (AObj.arr 45 1 [.sl hh.length 1 0 T (some T)])) (c := some (AObj.arr 45 1 [.sl hh.length 1 0 T (some T)])) hxl
              refine ⟨fun o => o = hh.length, _, _, .refl _, FrzH.two (lo := hh.length) (rr := hh.length + 2) (ys := (rows ++ [List.replicate T false]).map boolIl) (by omega) F.hc (by simp [hr0]) (fun y hy => by obtain ⟨b, -, rfl⟩ := List.mem_map.1 hy; exact ⟨rfl, rfl⟩) ?_, ?_⟩
              · rw [hr0]
                refine .cons (.sl _ _ _ _ _ 4 _ _ F.ha rfl (by simp) (by simp) (fun y hy => by obtain ⟨b, -, rfl⟩ := List.mem_map.1 hy; exact ⟨rfl, rfl⟩) fun i x y hx hy => ?_) .nil
                rw [Nat.zero_add] at hx; rw [hx] at hy; cases hy; exact .pure _
              · refine next _ (List.replicate T false) none none _ (fun q hq => by cases hq) rfl (by simp) (fun t => ?_) (?_ : PushF hh (h.length + 4) _ _ _ _ _) hlt
                rotate_left
                · have := F.two (c' := some (AObj.arr 45 1 ((rows ++ [List.replicate T false]).map boolIl))) hxl
                  rw [h0]; exact this
                · rw [hp]; by_cases ht : t < T <;> simp [List.getD, ht, List.getElem?_eq_none]
            · have hol := lt_of hor
              have horA : ∀ g, (hh ++ g)[rr]? = _ := fun g => getApp hor
              have hne : rr ≠ h.length + 4 := by rintro e; rw [e, hxo] at hor; cases hor
              have hvS : ∀ a g, (((hh ++ a).set rr none) ++ g)[h.length + 4]? = _ := fun a g => getApp (by rw [getS_ne hne]; exact hxA a)
              have htk : (rows.map boolIl).take j = rows.map boolIl := List.take_of_length_le (by simp [hrl])
              simp only [hxA, hp, horA, hvS, htk, rm, hwj, List.length_map, hrl, Nat.le_refl, go_sem, Nat.reduceAdd, Nat.reduceMul, Nat.reduceEqDiff, Nat.reduceLeDiff, List.range_zero, List.drop_zero, List.nil_append, reduceIte]
              have F := PushF.succ (hh := hh) (x := h.length + 4) (rr := rr) (V := some (allObj (.sl (hh.length + 2) 1 0 (j + 1) none) l)) (a := some (AObj.arr 4 1 ((List.replicate T false).map B))) (b := some (AObj.arr 45 1 [.sl hh.length 1 0 T (some T)])) (c := some (AObj.arr 45 1 (rows.map boolIl ++ [.sl hh.length 1 0 T (some T)]))) hxl hol
              refine ⟨fun o => o = hh.length, _, _, .refl _, FrzH.two (lo := hh.length) (rr := hh.length + 2) (ys := (rows ++ [List.replicate T false]).map boolIl) (by omega) F.hc (by simp) (fun y hy => by obtain ⟨b, -, rfl⟩ := List.mem_map.1 hy; exact ⟨rfl, rfl⟩) ?_, ?_⟩
              · rw [List.map_append]
                refine FrzSL.mk' (by simp) fun i x y hx hy => ?_
                by_cases hi : i < rows.length
                · rw [List.getElem?_append_left (by simpa using hi)] at hx hy
                  rw [hx] at hy; cases hy; exact .pure _
                · rw [List.getElem?_append_right (by simp; omega)] at hx hy
                  simp only [List.length_map] at hx hy
                  cases hd : i - rows.length with
                  | succ d => simp [hd] at hx
                  | zero =>
                    simp [hd] at hx hy
                    subst hx; subst hy
                    refine .sl _ _ _ _ _ 4 _ ((List.replicate T false).map B) F.ha rfl (by simp) (by simp) (fun y hy => by obtain ⟨b, -, rfl⟩ := List.mem_map.1 hy; exact ⟨rfl, rfl⟩) fun i x y hx hy => ?_
                    rw [Nat.zero_add] at hx; rw [hx] at hy; cases hy; exact .pure _
              · refine next _ (List.replicate T false) (some rr) none _ (fun q hq => by cases hq; exact hge) rfl (by simp) (fun t => ?_) (?_ : PushF hh (h.length + 4) _ _ _ _ _) hlt
                rotate_left
                · exact F.two (c' := some (AObj.arr 45 1 ((rows ++ [List.replicate T false]).map boolIl))) hxl
                · rw [hp]; by_cases ht : t < T <;> simp [List.getD, ht, List.getElem?_eq_none]
        · simp only [decide_eq_false_iff_not] at hge
          have hjn : j = n := by omega
          rw [hjn] at hra hrl hrs
          have hge' : decide (n < n) = false := by simp
          clear hnx2 next
          obtain ⟨c, hc⟩ : ∃ c : AC, c = ⟨h.length + 4, rr, n, T, ra, none⟩ := ⟨_, rfl⟩
          have hcx : c.x = h.length + 4 := by rw [hc]
          have hcn : c.n = n := by rw [hc]
          have hcT : c.T = T := by rw [hc]
          have hcra : c.ra = ra := by rw [hc]
          have hcrr : c.rr = rr := by rw [hc]
          have HA : AH c hh ⟨rows, l⟩ := by
            rw [hc]
            refine ⟨hxo, hra.imp id fun ⟨a, b, _, _⟩ => ⟨a, b⟩, fun hn0 => ?_, ⟨hrl, hrow, hll⟩⟩
            rcases hra with ⟨e, -⟩ | ⟨-, -, e, -⟩
            · exact (hn0 e).elim
            · exact e
          have ok : BOk m p c := ⟨by rw [hcn, hn], by rw [hcT, hT], by rw [hcT]; omega⟩
          have hrge : c.n ≠ 0 → h.length + 5 ≤ c.rr := by
            rw [hcn, hcrr]
            intro hn0
            rcases hra with ⟨e, -⟩ | ⟨-, -, -, e⟩
            · exact (hn0 e).elim
            · exact e
          have keepB : ∀ h1 h2, HB h5 h1 → RUB c h1 h2 → HB h5 h2 := fun h1 h2 b r => ⟨by rw [r.len]; exact b.1, fun o ho => by
            rcases r.obj o with e | ⟨e, -⟩ | ⟨e, hn0, -⟩
            · rw [e]; exact b.2 o ho
            · omega
            · have := hrge hn0; omega⟩
          have below0 : ∀ s, Closed m p s → (BSt.sets ⟨rows, l⟩).Sub s := by
            intro s hs
            have hO : ∀ t, l.getD t false = true → s.O t := fun t ht => by
              rw [hls] at ht
              simp only [decide_eq_true_eq] at ht
              exact hs.init t ht.1 (by rw [← hT]; omega)
            refine ⟨fun r t ht => ?_, hO⟩
            simp only [BSt.sets] at ht
            by_cases hr : r < n
            · rw [hrs r t hr] at ht
              simp only [Bool.and_eq_true, decide_eq_true_eq] at ht
              have h2 := ht.2
              rw [hls] at h2
              simp only [decide_eq_true_eq] at h2
              exact hs.par r t ht.1 h2.1 (by rw [← hT]; omega)
            · rw [show rows.getD r [] = [] by simp [List.getD, List.getElem?_eq_none (show rows.length ≤ r by omega)]] at ht
              simp at ht
          have hlim : c.T * (c.n + 1) < 9223372036854775808 := by
            rw [hcT, hcn]
            have : T * (n + 1) ≤ 1000 * 8001 := Nat.mul_le_mul (by omega) (by omega)
            omega
          rw [← hcx]
          simp only [hge', go_sem, Nat.reduceAdd, Nat.reduceMul, Nat.reduceEqDiff, Nat.reduceLeDiff, List.range_zero, List.drop_zero, List.nil_append, reduceIte]
          refine aLoop_gh [3, 4, 6, 10] (fun (a : BSt × Int) vs hx => AH c hx a.1 ∧ HB h5 hx ∧ GoodB m p c.n c.T ⟨rows, l⟩ a.1 ∧ (a.2 = -1 ∨ (0 ≤ a.2 ∧ a.2 ≤ a.1.tot ∧ (a.2 = a.1.tot → ∀ e ∈ evsOf p.blocks, EvC p a.1.sets e))) ∧
            vs = [.ptr (h.length + 1) 6 0 0 [], .ptr (h.length + 2) 2 0 0 [], .ptr c.x 2 0 0 [], I a.2]) (fun a => (((c.T * (c.n + 1) : Nat) : Int) - a.2).toNat) ?_ ?_
          · simp only [go_sem, Nat.reduceAdd, Nat.reduceMul, Nat.reduceEqDiff, Nat.reduceLeDiff, List.range_zero, List.drop_zero, List.nil_append, reduceIte]
            exact ⟨(⟨rows, l⟩, -1), HA, hb, .refl HA.wf, .inl rfl, rfl⟩
          · rintro ⟨st, was⟩ vs hx - ⟨Hx, hbx, hGx, hwas, rfl⟩ I3 μ3 m3 hnx3
            simp only at Hx hGx hwas
            have htb := totB_le Hx.wf
            have hpx := (hbx.2 _ (by omega : h.length + 1 < h5.length)).trans hp5
            simp only [go_sem, Nat.reduceAdd, Nat.reduceMul, Nat.reduceEqDiff, Nat.reduceLeDiff, List.range_zero, List.drop_zero, List.nil_append, reduceIte]
            refine run68 c st hlim ok.small (by omega) hx Hx _ ?_
            simp only [go_sem, Nat.reduceAdd, Nat.reduceMul, Nat.reduceEqDiff, Nat.reduceLeDiff, List.range_zero, List.drop_zero, List.nil_append, reduceIte]
            refine AIf_intro (fun heq => ?_) (fun hne => ?_)
            · have heq' : (st.tot : Int) = was := by simpa using heq
              have hcl : Closed m p st.sets := by
                have hev : ∀ e ∈ evsOf p.blocks, EvC p st.sets e := by
                  rcases hwas with e | ⟨-, -, e⟩
                  · omega
                  · exact e heq'.symm
                refine ⟨fun t h1 h2 => ?_, fun r t h1 h2 h3 => ?_, fun b hb i hi => ?_, fun b hb hk hba => ?_⟩
                · refine hGx.mono.O t ?_
                  show l.getD t false = true
                  rw [hls]; simp only [decide_eq_true_eq]; omega
                · refine hGx.mono.R r t ?_
                  show (rows.getD r []).getD t false = true
                  rw [hrs r t (by omega), hls]
                  simp only [Bool.and_eq_true, decide_eq_true_eq]; omega
                · exact hev (.ins i) (mem_evs.2 ⟨b, hb, by simp [blkEv, hi]⟩)
                · exact hev (.ret b.a) (mem_evs.2 ⟨b, hb, by simp [blkEv, retEv, hk, hba]⟩)
              have hleast : ∀ s, Closed m p s → st.sets.Sub s := fun s hs => hGx.sub s hs (below0 s hs)
              have hwx := Hx.wf
              rw [hcn, hcT] at hwx
              have hdone : BDone m p p.regs.toNat st := by
                have e : p.regs.toNat = n := by omega
                rw [e]
                refine ⟨by rw [← hT]; exact hwx, fun r t => ?_, fun t => hcl.isO hleast t⟩
                rw [← hcl.isR hleast r t]
                refine ⟨fun h1 => ⟨?_, h1⟩, fun h1 => h1.2⟩
                refine Nat.lt_of_not_le fun hle => ?_
                rw [show st.regs.getD r [] = [] by simp [List.getD, List.getElem?_eq_none (show st.regs.length ≤ r by rw [hwx.regs]; omega)]] at h1
                simp at h1
              have hKd := hK st hdone
              have hzx := (hbx.2 _ (by omega : h.length + 2 < h5.length)).trans hz5
              have hzl := lt_of hzx
              have hxx := Hx.hx
              have hbz : ∀ X, HB h (hx.set (h.length + 2) X) := fun X => (hb5.trans hbx).set (by omega)
              have fr2 : ∀ X : Option AObj, ∀ rr', rr' ≠ h.length + 2 → (hx.set (h.length + 2) X)[rr']? = hx[rr']? := fun X rr' hne => getS_ne (Ne.symm hne)
              have frout : ∀ X, Frz h.length (hx.set (h.length + 2) X) (boolIl st.out) (boolIl st.out) := fun X => .pure _ rb_boolIl
              rcases Hx.ra with ⟨hn0, hrax⟩ | ⟨hn0, hrax⟩
              · rw [hrax] at hxx
                simp only [hxx, hzx, getS_eq hzl, go_sem, Nat.reduceAdd, Nat.reduceMul, Nat.reduceEqDiff, Nat.reduceLeDiff, List.range_zero, List.drop_zero, List.nil_append, reduceIte]
                have hr0 : st.regs = [] := List.length_eq_zero_iff.1 (by rw [Hx.wf.regs]; exact hn0)
                refine WRet.of (hbz _).ext (Frz.aggL (.cons ?_ (.cons (frout _) .nil))) (by simp) hKd
                rw [hr0]; exact .nil 1
              · rw [hrax] at hxx
                have hrx := Hx.hr hn0
                simp only [hxx, hzx, getS_eq hzl, go_sem, Nat.reduceAdd, Nat.reduceMul, Nat.reduceEqDiff, Nat.reduceLeDiff, List.range_zero, List.drop_zero, List.nil_append, reduceIte]
                refine WRet.of (hbz _).ext (Frz.aggL (.cons ?_ (.cons (frout _) .nil))) (by simp) hKd
                refine .sl c.rr 1 0 c.n c.cr 45 (st.regs.map boolIl) (st.regs.map boolIl) ?_ (by have := hrge hn0; omega) (by simp [Hx.wf.regs]) (by simp [Hx.wf.regs]) (fun y hy => by obtain ⟨b, -, rfl⟩ := List.mem_map.1 hy; exact ⟨rfl, rfl⟩) fun i x y hx' hy => ?_
                · rw [fr2 _ _ (by have := hrge hn0; omega)]; exact hrx
                · rw [Nat.zero_add] at hx'; rw [hx'] at hy; cases hy
                  obtain ⟨b, -, rfl⟩ := List.mem_map.1 (List.mem_of_getElem? hx')
                  exact .pure _ rb_boolIl
            · have hne' : ¬ (st.tot : Int) = was := by simpa using hne
              simp only [go_sem, Nat.reduceAdd, Nat.reduceMul, Nat.reduceEqDiff, Nat.reduceLeDiff, List.range_zero, List.drop_zero, List.nil_append, reduceIte]
              refine run68 c st hlim ok.small (by omega) hx Hx _ ?_
              have hbl := pl.blocks
              unfold Len at hbl
              simp only [go_sem, Nat.reduceAdd, Nat.reduceMul, Nat.reduceEqDiff, Nat.reduceLeDiff, List.range_zero, List.drop_zero, List.nil_append, reduceIte]
              refine aLoop_nat [3, 4, 6, 10, 11] p.blocks.length (fun k vs h1 => ∃ st1, AH c h1 st1 ∧ HB h5 h1 ∧ GoodB m p c.n c.T st st1 ∧ (st1 = st → ∀ e ∈ evsOf (p.blocks.take k), EvC p st.sets e) ∧
                vs = [.ptr (h.length + 1) 6 0 0 [], .ptr (h.length + 2) 2 0 0 [], .ptr c.x 2 0 0 [], I st.tot, I k]) ?_ ?_
              · simp only [go_sem, Nat.reduceAdd, Nat.reduceMul, Nat.reduceEqDiff, Nat.reduceLeDiff, List.range_zero, List.drop_zero, List.nil_append, reduceIte]
                exact ⟨st, Hx, hbx, .refl Hx.wf, fun _ e he => by simp [evsOf] at he, rfl⟩
              · rintro k vs h1 hk - ⟨st1, H1, hb1, hG1, hc1, rfl⟩ I4 μ4 m4 hnx4
                have hp1 := (hb1.2 _ (by omega : h.length + 1 < h5.length)).trans hp5
                simp only [hp1, ltI, go_sem, Nat.reduceAdd, Nat.reduceMul, Nat.reduceEqDiff, Nat.reduceLeDiff, List.range_zero, List.drop_zero, List.nil_append, reduceIte]
                refine AIf_intro (fun hlt => ?_) (fun hge4 => ?_)
                · simp only [decide_eq_true_eq] at hlt
                  have hgd := getD_map MBlk.enc p.blocks hlt
                  have hbm := List.getElem_mem hlt
                  have hev := evsOf_take hlt
                  generalize p.blocks[k] = b at hgd hbm hev
                  have hil := (pl.each b hbm).ins
                  unfold Len at hil
                  simp only [go_sem, Nat.reduceAdd, Nat.reduceMul, Nat.reduceEqDiff, Nat.reduceLeDiff, List.range_zero, List.drop_zero, List.nil_append, reduceIte]
                  refine aLoop_nat [3, 4, 6, 10, 11, 12] b.ins.length (fun j vs h2 => ∃ st2, AH c h2 st2 ∧ HB h5 h2 ∧ GoodB m p c.n c.T st st2 ∧ (st2 = st → ∀ e ∈ evsOf (p.blocks.take k) ++ (b.ins.take j).map .ins, EvC p st.sets e) ∧
                    vs = [.ptr (h.length + 1) 6 0 0 [], .ptr (h.length + 2) 2 0 0 [], .ptr c.x 2 0 0 [], I st.tot, I k, I j]) ?_ ?_
                  · simp only [go_sem, Nat.reduceAdd, Nat.reduceMul, Nat.reduceEqDiff, Nat.reduceLeDiff, List.range_zero, List.drop_zero, List.nil_append, reduceIte]
                    exact ⟨st1, H1, hb1, hG1, by simpa using hc1, rfl⟩
                  · rintro j vs h2 hj - ⟨st2, H2, hb2, hG2, hc2, rfl⟩ I6 μ6 m6 hnx6
                    have hp2 := (hb2.2 _ (by omega : h.length + 1 < h5.length)).trans hp5
                    simp only [hp2, ltI, bnd hlt, hgd, toNatC, go_sem, Nat.reduceAdd, Nat.reduceMul, Nat.reduceEqDiff, Nat.reduceLeDiff, List.range_zero, List.drop_zero, List.nil_append, reduceIte]
                    refine AIf_intro (fun hlt2 => ?_) (fun hge6 => ?_)
                    · simp only [decide_eq_true_eq] at hlt2
                      have hgd2 := getD_map MIns.enc b.ins hlt2
                      have him := List.getElem_mem hlt2
                      have htk : (b.ins.take (j + 1)).map AEv.ins = (b.ins.take j).map AEv.ins ++ [.ins b.ins[j]] := by rw [List.take_succ_eq_append_getElem hlt2, List.map_append]; rfl
                      generalize b.ins[j] = i at hgd2 him htk
                      simp only [go_sem, Nat.reduceAdd, Nat.reduceMul, Nat.reduceEqDiff, Nat.reduceLeDiff, List.range_zero, List.drop_zero, List.nil_append, reduceIte]
                      refine aw_drawn st18_23 mixed (by kernel_rfl) ?_
                      simp only [hp2, bnd hlt, hgd, bnd hlt2, hgd2, toNatC, go_sem, Nat.reduceAdd, Nat.reduceMul, Nat.reduceEqDiff, Nat.reduceLeDiff, List.range_zero, List.drop_zero, List.nil_append, reduceIte]
                      refine run69 m p c ok st2 i ((pl.each b hbm).each i him) (pb.ins b hbm i him) b hbm him h2 H2 _ fun h3 st3 H3 r3 hG3 hc3 => ?_
                      simp only [inc64 hlt2 hil, go_sem, Nat.reduceAdd, Nat.reduceMul, Nat.reduceEqDiff, Nat.reduceLeDiff, List.range_zero, List.drop_zero, List.nil_append, reduceIte]
                      refine hnx6 _ _ hlt2 ⟨st3, H3, keepB _ _ hb2 r3, hG2.trans hG3, fun e ev hev' => ?_, rfl⟩
                      have e3 := hG3.le
                      have e2 := hG2.le
                      rw [e] at e3
                      have e5 := hG2.eq (by omega)
                      subst e5
                      rw [htk, ← List.append_assoc] at hev'
                      rcases List.mem_append.1 hev' with hev' | hev'
                      · exact hc2 rfl ev hev'
                      · simp at hev'; subst hev'; exact hc3 e
                    · simp only [decide_eq_false_iff_not] at hge6
                      have hjj : j = b.ins.length := by omega
                      subst hjj
                      rw [List.take_length] at hc2
                      have plain : retEv b = [] → (I4 [.ptr (h.length + 1) 6 0 0 [], .ptr (h.length + 2) 2 0 0 [], .ptr c.x 2 0 0 [], I st.tot, I (k + 1 : Nat)] h2 ∧ μ4 [.ptr (h.length + 1) 6 0 0 [], .ptr (h.length + 2) 2 0 0 [], .ptr c.x 2 0 0 [], I st.tot, I (k + 1 : Nat)] h2 < m4) := by
                        intro e
                        refine hnx4 _ _ hlt ⟨st2, H2, hb2, hG2, fun e2 ev hev' => ?_, rfl⟩
                        rw [hev, blkEv, e, List.append_nil] at hev'
                        exact hc2 e2 ev hev'
                      simp only [hp2, bnd hlt, hgd, toNatC, go_sem, Nat.reduceAdd, Nat.reduceMul, Nat.reduceEqDiff, Nat.reduceLeDiff, List.range_zero, List.drop_zero, List.nil_append, reduceIte]
                      refine AIf_intro (fun hk3 => ?_) (fun hk3 => ?_)
                      · have hk3' : b.kind = 3 := by simpa using hk3
                        simp only [hp2, bnd hlt, hgd, toNatC, hk3, go_sem, Nat.reduceAdd, Nat.reduceMul, Nat.reduceEqDiff, Nat.reduceLeDiff, List.range_zero, List.drop_zero, List.nil_append, reduceIte]
                        refine AIf_intro (fun ha => ?_) (fun ha => ?_)
                        · have ha' : b.a = -1 := by simpa using ha
                          simp only [ha, inc64 hlt hbl, go_sem, Nat.reduceAdd, Nat.reduceMul, Nat.reduceEqDiff, Nat.reduceLeDiff, List.range_zero, List.drop_zero, List.nil_append, reduceIte]
                          exact plain (by rw [retEv, if_neg (by simp [ha'])])
                        · have ha' : ¬ b.a = -1 := by simpa using ha
                          obtain ⟨q1, q2⟩ := ((pb.ends b hbm).ret hk3').1.resolve_left ha'
                          obtain ⟨r, hr, hrn⟩ : ∃ r : Nat, b.a = r ∧ r < c.n := ⟨b.a.toNat, by omega, by omega⟩
                          have hre : retEv b = [.ret b.a] := by rw [retEv, if_pos ⟨hk3', ha'⟩]
                          have hw2 := H2.wf
                          have hol := hw2.out
                          have hra2 := WFB.len hw2 hrn
                          have hrl2 : r < st2.regs.length := by rw [hw2.regs]; exact hrn
                          have hG3 : GoodB m p c.n c.T st2 _ := GoodB.let_ hw2 hrn fun s hs t ht => by
                            have := hs.ends b hbm hk3' ha' t
                            rw [hr] at this
                            exact this ht
                          obtain ⟨H3, r3⟩ := H2.setOut (out := orB st2.out (st2.regs.getD r [])) ⟨hw2.regs, hw2.row, by rw [orB_length (by omega), hol]⟩
                          have e0 : allObj c.ra (orB st2.out (st2.regs.getD r [])) = allObj (.sl c.rr 1 0 c.n c.cr) (orB st2.out (st2.regs.getD r [])) := by
                            rcases H2.ra with ⟨e, -⟩ | ⟨-, e⟩
                            · omega
                            · rw [e]
                          rw [e0] at H3 r3
                          simp only [ha, go_sem, Nat.reduceAdd, Nat.reduceMul, Nat.reduceEqDiff, Nat.reduceLeDiff, List.range_zero, List.drop_zero, List.nil_append, reduceIte]
                          refine aw_drawn st18_25 mixed (by kernel_rfl) ?_
                          simp only [hp2, bnd hlt, hgd, toNatC, hr, H2.hx' hrn, H2.hr' hrn, bnd hrn, hrl2, go_sem, Nat.reduceAdd, Nat.reduceMul, Nat.reduceEqDiff, Nat.reduceLeDiff, List.range_zero, List.drop_zero, List.nil_append, reduceIte]
                          refine run70 _ _ (by omega) (by have := ok.small; omega) _ _ ?_
                          simp only [hp2, bnd hlt, hgd, toNatC, hr, H2.hx' hrn, H2.hr' hrn, bnd hrn, hrl2, inc64 hlt hbl, go_sem, Nat.reduceAdd, Nat.reduceMul, Nat.reduceEqDiff, Nat.reduceLeDiff, List.range_zero, List.drop_zero, List.nil_append, reduceIte]
                          refine hnx4 _ _ hlt ⟨_, H3, keepB _ _ hb2 r3, hG2.trans hG3, fun e ev hev' => ?_, rfl⟩
                          have e3 := hG3.le
                          have e2 := hG2.le
                          rw [e] at e3
                          have e5 := hG2.eq (by omega)
                          subst e5
                          rw [hev, blkEv, hre, ← List.append_assoc] at hev'
                          rcases List.mem_append.1 hev' with hev' | hev'
                          · exact hc2 rfl ev hev'
                          · simp at hev'; subst hev'
                            show ∀ t, st2.sets.R b.a.toNat t → st2.sets.O t
                            rw [hr]
                            exact letB_fix hw2 hrn e
                      · have hk3' : ¬ b.kind = 3 := by simpa using hk3
                        simp only [hk3, inc64 hlt hbl, go_sem, Nat.reduceAdd, Nat.reduceMul, Nat.reduceEqDiff, Nat.reduceLeDiff, List.range_zero, List.drop_zero, List.nil_append, reduceIte]
                        exact plain (by rw [retEv, if_neg (by simp [hk3'])])
                · simp only [decide_eq_false_iff_not] at hge4
                  have hkk : k = p.blocks.length := by omega
                  subst hkk
                  rw [List.take_length] at hc1
                  simp only [go_sem, Nat.reduceAdd, Nat.reduceMul, Nat.reduceEqDiff, Nat.reduceLeDiff, List.range_zero, List.drop_zero, List.nil_append, reduceIte]
                  have hle1 := hG1.le
                  refine hnx3 (st1, st.tot) _ _ ?_ ⟨H1, hb1, hGx.trans hG1, .inr ⟨by omega, by show (st.tot : Int) ≤ st1.tot; omega, fun e => ?_⟩, rfl⟩
                  · show (((c.T * (c.n + 1) : Nat) : Int) - (st.tot : Int)).toNat < (((c.T * (c.n + 1) : Nat) : Int) - was).toNat
                    generalize c.T * (c.n + 1) = Z at htb ⊢
                    rcases hwas with e | ⟨e1, e2, -⟩
                    · omega
                    · omega
                  · have e5 := hG1.eq (by have : (st.tot : Int) = st1.tot := e; omega)
                    have := hc1 e5
                    rw [← e5] at this
                    exact this
end Go.Am
