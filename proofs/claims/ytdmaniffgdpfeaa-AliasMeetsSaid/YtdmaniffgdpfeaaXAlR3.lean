/- A part of the proof that AliasThings and AliasMeets return true for every module: texts on an abstract reading of the code (AlR1, AlR3). -/
import Derived.Test.YtdmaniffgdpfeaaXAmIr5
import Derived.Test.YtdmaniffgdpfeaaXAlW6
set_option linter.unusedVariables false
set_option linter.unusedSimpArgs false
set_option linter.unusedSectionVars false
set_option maxRecDepth 100000
set_option maxHeartbeats 1000000
set_option linter.unusedSimpArgs false
set_option linter.unusedVariables false
namespace Go.Am
open Go Go.Proofs
def boolIl (l : List Bool) : AV := .il 1 (l.map B)
theorem flat_boolIl {l} : flat (boolIl l) = [boolIl l] := nr rfl
theorem sto_boolIl {l r} : sto (boolIl l :: r) = sto r := by simp only [boolIl, sto_il]
theorem partOk_boolIl {l} : partOk (boolIl l) = true := nr rfl
theorem shape_boolIl {l t} : shapeOk Try.prog t (boolIl l) = (isAggB Try.prog t = some false) := nr rfl
theorem alen_boolIl {h : Heap} {K : AV → Heap → Prop} {l : List Bool} : alen h K (boolIl l) = K (I l.length) h := by simp only [boolIl, go_sem]
theorem aindex_boolIl {h : Heap} {K : AV → Heap → Prop} {l : List Bool} {k : IntKind} {n : Nat} : aindex Try.prog 45 h K (boolIl l) (.val (.int k n)) = (n < l.length ∧ K (.iptr (B (l.getD n false))) h) := by
  rw [boolIl, aindex_il]
  by_cases hn : n < l.length
  · have hg := getD_map B l hn
    have hb : ABound (n : Int) (List.length (l.map B)) := by rw [List.length_map]; exact bnd hn
    simp only [toNatC, hg, getD_eq hn, go_sem]
    simp only [List.length_map] at hb
    simp [hn, hb]
  · have hb : ¬ ABound (n : Int) (List.length (l.map B)) := by
      intro hb; unfold ABound at hb; rw [List.length_map] at hb; omega
    rw [List.length_map] at hb ⊢
    simp only [hb, hn, false_and, and_false]
theorem elems_boolIl {h : Heap} {l : List Bool} : elems h 1 (boolIl l) = some (l.map B) := by simp [boolIl, elems]
attribute [go_sem] flat_boolIl sto_boolIl partOk_boolIl shape_boolIl alen_boolIl aindex_boolIl elems_boolIl
theorem rb_boolIl {n l} : RB n (boolIl l) := by
  refine rb_il fun a _ y hy => ?_
  rw [flat_val] at hy; simp at hy; subst hy; exact .val _
theorem boolsL_succ {l : List Bool} {k : Nat} (h : k < l.length) : (l.take (k + 1)).map B = (l.take k).map B ++ [B l[k]] := by
  rw [List.take_succ_eq_append_getElem h, List.map_append]; rfl
theorem rb_bools {n : Nat} {l : List Bool} : ∀ x ∈ l.map B, RB n x := fun x hx => by
  obtain ⟨b, -, rfl⟩ := List.mem_map.1 hx; exact .val _
theorem run70 (a b : List Bool) (hl : b.length = a.length) (hlim : a.length < 1099511627776) (h : Heap) (K) (hK : K (boolIl (orB a b)) h) : RunsK Try.prog 70 [boolIl a, boolIl b] h K := by
  refine RunsK.intro Try.func70 rfl (by decide) (by simp only [Try.f70, go_sem]; decide) ?_
  simp only [Try.f70]
  simp only [go_sem, Nat.reduceAdd, Nat.reduceMul, Nat.reduceEqDiff, Nat.reduceLeDiff, List.range_zero, List.drop_zero, List.nil_append, reduceIte]
  have hlo := orB_length hl
  refine aLoop_nat [0, 1, 5, 6] a.length (fun k vs hh => ∃ c, Acc h 4 1 hh c (((orB a b).take k).map B) ∧ vs = [boolIl a, boolIl b, c, I k]) ?_ ?_
  · simp only [go_sem, Nat.reduceAdd, Nat.reduceMul, Nat.reduceEqDiff, Nat.reduceLeDiff, List.range_zero, List.drop_zero, List.nil_append, reduceIte]
    exact ⟨_, .nil .refl, rfl⟩
  · rintro k vs hh hk - ⟨c, A, rfl⟩ I' μ m hn
    simp only [ltI, go_sem, Nat.reduceAdd, Nat.reduceMul, Nat.reduceEqDiff, Nat.reduceLeDiff, List.range_zero, List.drop_zero, List.nil_append, reduceIte]
    refine AIf_intro (fun hlt => ?_) (fun hge => ?_)
    · simp only [decide_eq_true_eq] at hlt
      have hlb : k < b.length := by omega
      have hko : k < (orB a b).length := by omega
      have hv : (orB a b)[k] = (a[k] || b[k]) := by simp [orB]
      have hsu := boolsL_succ hko
      have room : ARoom ((((orB a b).take k).map B).length + 1) (Try.prog.bytesOf 4) := by
        rw [List.length_map, List.length_take]; simp only [go_sem, Nat.reduceAdd, Nat.reduceMul, Nat.reduceEqDiff, Nat.reduceLeDiff, List.range_zero, List.drop_zero, List.nil_append, reduceIte]; exact ⟨by omega, by omega⟩
      simp only [hlt, hlb, getD_eq hlt, getD_eq hlb, go_sem, Nat.reduceAdd, Nat.reduceMul, Nat.reduceEqDiff, Nat.reduceLeDiff, List.range_zero, List.drop_zero, List.nil_append, reduceIte]
      cases hab : a[k] with
      | true =>
        simp only [go_sem, Nat.reduceAdd, Nat.reduceMul, Nat.reduceEqDiff, Nat.reduceLeDiff, List.range_zero, List.drop_zero, List.nil_append, reduceIte]
        refine A.push rfl ⟨rfl, rfl⟩ room fun c' h' A' => ?_
        simp only [inc64 hlt (by omega : a.length < 9223372036854775808), go_sem, Nat.reduceAdd, Nat.reduceMul, Nat.reduceEqDiff, Nat.reduceLeDiff, List.range_zero, List.drop_zero, List.nil_append, reduceIte]
        refine hn _ _ hlt ⟨c', ?_, rfl⟩
        rw [hsu, hv, hab]; exact A'
      | false =>
        simp only [hlt, hlb, getD_eq hlt, getD_eq hlb, go_sem, Nat.reduceAdd, Nat.reduceMul, Nat.reduceEqDiff, Nat.reduceLeDiff, List.range_zero, List.drop_zero, List.nil_append, reduceIte]
        refine A.push rfl ⟨rfl, rfl⟩ room fun c' h' A' => ?_
        simp only [inc64 hlt (by omega : a.length < 9223372036854775808), go_sem, Nat.reduceAdd, Nat.reduceMul, Nat.reduceEqDiff, Nat.reduceLeDiff, List.range_zero, List.drop_zero, List.nil_append, reduceIte]
        refine hn _ _ hlt ⟨c', ?_, rfl⟩
        rw [hsu, hv, hab]; exact A'
    · simp only [decide_eq_false_iff_not] at hge
      simp only [go_sem, Nat.reduceAdd, Nat.reduceMul, Nat.reduceEqDiff, Nat.reduceLeDiff, List.range_zero, List.drop_zero, List.nil_append, reduceIte]
      have hkT : k = a.length := by omega
      rw [hkT, ← hlo, List.take_length] at A
      exact A.ret .refl rb_bools hK
theorem run123 (a : List Bool) (n : Int) (hlim : a.length < 1099511627776) (h : Heap) (K) (hK : K (boolIl (putB a n)) h) : RunsK Try.prog 123 [boolIl a, I n] h K := by
  refine RunsK.intro Try.func123 rfl (by decide) (by simp only [Try.f123, go_sem]; decide) ?_
  simp only [Try.f123]
  simp only [go_sem, Nat.reduceAdd, Nat.reduceMul, Nat.reduceEqDiff, Nat.reduceLeDiff, List.range_zero, List.drop_zero, List.nil_append, reduceIte]
  have hlo := putB_length (a := a) (n := n)
  refine aLoop_nat [0, 1, 5, 6] a.length (fun k vs hh => ∃ c, Acc h 4 1 hh c (((putB a n).take k).map B) ∧ vs = [boolIl a, I n, c, I k]) ?_ ?_
  · simp only [go_sem, Nat.reduceAdd, Nat.reduceMul, Nat.reduceEqDiff, Nat.reduceLeDiff, List.range_zero, List.drop_zero, List.nil_append, reduceIte]
    exact ⟨_, .nil .refl, rfl⟩
  · rintro k vs hh hk - ⟨c, A, rfl⟩ I' μ m hn
    simp only [ltI, go_sem, Nat.reduceAdd, Nat.reduceMul, Nat.reduceEqDiff, Nat.reduceLeDiff, List.range_zero, List.drop_zero, List.nil_append, reduceIte]
    refine AIf_intro (fun hlt => ?_) (fun hge => ?_)
    · simp only [decide_eq_true_eq] at hlt
      have hko : k < (putB a n).length := by omega
      have hv : (putB a n)[k] = (a[k] || decide ((k : Int) = n)) := by simp [putB]
      have hsu := boolsL_succ hko
      have room : ARoom ((((putB a n).take k).map B).length + 1) (Try.prog.bytesOf 4) := by
        rw [List.length_map, List.length_take]; simp only [go_sem, Nat.reduceAdd, Nat.reduceMul, Nat.reduceEqDiff, Nat.reduceLeDiff, List.range_zero, List.drop_zero, List.nil_append, reduceIte]; exact ⟨by omega, by omega⟩
      simp only [hlt, getD_eq hlt, go_sem, Nat.reduceAdd, Nat.reduceMul, Nat.reduceEqDiff, Nat.reduceLeDiff, List.range_zero, List.drop_zero, List.nil_append, reduceIte]
      cases hab : a[k] with
      | true =>
        simp only [go_sem, Nat.reduceAdd, Nat.reduceMul, Nat.reduceEqDiff, Nat.reduceLeDiff, List.range_zero, List.drop_zero, List.nil_append, reduceIte]
        refine A.push rfl ⟨rfl, rfl⟩ room fun c' h' A' => ?_
        simp only [inc64 hlt (by omega : a.length < 9223372036854775808), go_sem, Nat.reduceAdd, Nat.reduceMul, Nat.reduceEqDiff, Nat.reduceLeDiff, List.range_zero, List.drop_zero, List.nil_append, reduceIte]
        refine hn _ _ hlt ⟨c', ?_, rfl⟩
        rw [hsu, hv, hab]; exact A'
      | false =>
        simp only [hlt, getD_eq hlt, go_sem, Nat.reduceAdd, Nat.reduceMul, Nat.reduceEqDiff, Nat.reduceLeDiff, List.range_zero, List.drop_zero, List.nil_append, reduceIte]
        refine A.push rfl ⟨rfl, rfl⟩ room fun c' h' A' => ?_
        simp only [inc64 hlt (by omega : a.length < 9223372036854775808), go_sem, Nat.reduceAdd, Nat.reduceMul, Nat.reduceEqDiff, Nat.reduceLeDiff, List.range_zero, List.drop_zero, List.nil_append, reduceIte]
        refine hn _ _ hlt ⟨c', ?_, rfl⟩
        rw [hsu, hv, hab]; exact A'
    · simp only [decide_eq_false_iff_not] at hge
      simp only [go_sem, Nat.reduceAdd, Nat.reduceMul, Nat.reduceEqDiff, Nat.reduceLeDiff, List.range_zero, List.drop_zero, List.nil_append, reduceIte]
      have hkT : k = a.length := by omega
      rw [hkT, ← hlo, List.take_length] at A
      exact A.ret .refl rb_bools hK
def regsB (l : List (List Bool)) : AObj := .arr 45 1 (l.map boolIl)
abbrev allObj (ra : AV) (out : List Bool) : AObj := .arr 47 2 [.agg [ra, boolIl out]]
theorem regsBL {h : Heap} {K : AV → Heap → Prop} {i : Nat} {l : List (List Bool)} : aloadO Try.prog 45 h K 1 i 0 [] (some (some (regsB l))) = (i < l.length ∧ K (boolIl (l.getD i [])) h) := by
  by_cases hi : i < l.length
  · have hg := getD_map boolIl l hi
    simp only [regsB, hg, getD_eq hi, hi, go_sem]
  · simp [regsB, aloadO_arr, hi]
theorem regsBS {h : Heap} {K : AV → Heap → Prop} {o i : Nat} {l : List (List Bool)} {v : List Bool} : astoreO Try.prog 45 h (boolIl v) K o 1 i 0 [] (some (some (regsB l))) = (i < l.length ∧ K (.tup []) (h.set o (some (regsB (l.set i v))))) := by
  by_cases hi : i < l.length
  · have hg := getD_map boolIl l hi
    have e : (l.map boolIl).set i (boolIl v) = (l.set i v).map boolIl := by rw [List.map_set]
    simp only [regsB, hg, e, hi, go_sem]
  · simp [regsB, astoreO_arr, hi]
attribute [go_sem] regsBL regsBS
structure AC where
  x : Nat
  rr : Nat
  n : Nat
  T : Nat
  ra : AV
  cr : Option Nat
structure AH (c : AC) (h : Heap) (st : BSt) : Prop where
  hx : h[c.x]? = some (some (allObj c.ra st.out))
  ra : (c.n = 0 ∧ c.ra = .val (.slice none 0 0)) ∨ (c.n ≠ 0 ∧ c.ra = .sl c.rr 1 0 c.n c.cr)
  hr : c.n ≠ 0 → h[c.rr]? = some (some (regsB st.regs))
  wf : st.WF c.n c.T
structure RUB (c : AC) (h h' : Heap) : Prop where
  len : h'.length = h.length
  obj : ∀ o : Nat, h'[o]? = h[o]? ∨ (o = c.x ∧ ∃ out, h'[o]? = some (some (allObj c.ra out))) ∨ (o = c.rr ∧ c.n ≠ 0 ∧ ∃ l, h'[o]? = some (some (regsB l)))
theorem RUB.refl {c h} : RUB c h h := ⟨rfl, fun o => .inl rfl⟩
theorem RUB.trans {c h h1 h2} (a : RUB c h h1) (b : RUB c h1 h2) : RUB c h h2 := by
  refine ⟨b.len.trans a.len, fun o => ?_⟩
  rcases b.obj o with e | e | e
  · rw [e]; exact a.obj o
  · exact .inr (.inl e)
  · exact .inr (.inr e)
theorem rb_regsB {n l} : RBo n (regsB l) := by
  intro x hx
  have : ∀ l : List (List Bool), flats (l.map boolIl) = l.map boolIl := by
    intro l
    induction l with
    | nil => rfl
    | cons a l ih => simp only [List.map_cons, flats_cons, flat_boolIl, ih]; rfl
  rw [this] at hx
  obtain ⟨b, -, rfl⟩ := List.mem_map.1 hx
  exact rb_boolIl
section
variable {c : AC} {h g : Heap} {st : BSt}
theorem AH.app (H : AH c h st) : AH c (h ++ g) st := ⟨getApp H.hx, H.ra, fun hn => getApp (H.hr hn), H.wf⟩
theorem AH.hx' (H : AH c h st) {d : Nat} (hd : d < c.n) : h[c.x]? = some (some (allObj (.sl c.rr 1 0 c.n c.cr) st.out)) := by
  rcases H.ra with ⟨e, -⟩ | ⟨-, e⟩
  · omega
  · rw [← e]; exact H.hx
theorem AH.hr' (H : AH c h st) {d : Nat} (hd : d < c.n) : h[c.rr]? = some (some (regsB st.regs)) := H.hr (by omega)
theorem AH.xr (H : AH c h st) (hn : c.n ≠ 0) : c.x ≠ c.rr := by
  intro e
  have h1 := H.hx
  rw [e, H.hr hn] at h1
  cases h1
theorem AH.below (H : AH c h st) : c.x < h.length ∧ (c.n ≠ 0 → c.rr < h.length) := ⟨lt_of H.hx, fun hn => lt_of (H.hr hn)⟩
theorem AH.rbAll (H : AH c h st) {out : List Bool} : RBo h.length (allObj c.ra out) := by
  intro x hx
  rcases H.ra with ⟨-, e⟩ | ⟨hn, e⟩
  · rw [e] at hx
    simp only [flats_cons, flats_nil, flat_agg, flat_val, flat_boolIl, List.cons_append, List.nil_append, List.append_nil, List.mem_cons, List.not_mem_nil, or_false] at hx
    rcases hx with rfl | rfl
    · exact .val _
    · exact rb_boolIl
  · rw [e] at hx
    simp only [flats_cons, flats_nil, flat_agg, flat_sl, flat_boolIl, List.cons_append, List.nil_append, List.append_nil, List.mem_cons, List.not_mem_nil, or_false] at hx
    rcases hx with rfl | rfl
    · exact .sl _ _ _ _ _ (H.below.2 hn)
    · exact rb_boolIl
theorem RUB.hs (H : AH c h st) {h' : Heap} (r : RUB c h h') : HS h.length h h' := by
  refine ⟨r.len, fun o ob ho => ?_⟩
  rcases r.obj o with e | ⟨-, out, e⟩ | ⟨-, -, l, e⟩
  · exact .inl (e ▸ ho)
  · rw [ho] at e; cases e; exact .inr H.rbAll
  · rw [ho] at e; cases e; exact .inr rb_regsB
theorem AH.setReg (H : AH c h st) (hn : c.n ≠ 0) {l : List (List Bool)} (hw : BSt.WF c.n c.T { st with regs := l }) : AH c (h.set c.rr (some (regsB l))) { st with regs := l } ∧ RUB c h (h.set c.rr (some (regsB l))) := by
  have hl := H.below.2 hn
  have hne := H.xr hn
  refine ⟨⟨by rw [getS_ne hne.symm]; exact H.hx, H.ra, fun _ => getS_eq hl, hw⟩, by simp, fun o => ?_⟩
  by_cases e : o = c.rr
  · subst e; exact .inr (.inr ⟨rfl, hn, l, getS_eq hl⟩)
  · exact .inl (getS_ne (Ne.symm e))
theorem AH.setOut (H : AH c h st) {out : List Bool} (hw : BSt.WF c.n c.T { st with out := out }) : AH c (h.set c.x (some (allObj c.ra out))) { st with out := out } ∧ RUB c h (h.set c.x (some (allObj c.ra out))) := by
  have hl := H.below.1
  refine ⟨⟨getS_eq hl, H.ra, fun hn => by rw [getS_ne (H.xr hn)]; exact H.hr hn, hw⟩, by simp, fun o => ?_⟩
  by_cases e : o = c.x
  · subst e; exact .inr (.inl ⟨rfl, out, getS_eq hl⟩)
  · exact .inl (getS_ne (Ne.symm e))
theorem AH.split {h' : Heap} {st' : BSt} (H : AH c h st) (H' : AH c h' st') (r : RUB c (h ++ g) h') : ∃ h1, h' = h1 ++ g ∧ RUB c h h1 ∧ AH c h1 st' := by
  obtain ⟨b1, b2⟩ := H.below
  have hl := r.len
  rw [List.length_append] at hl
  have hd : h'.drop h.length = g := by
    apply List.ext_getElem?
    intro i
    rw [List.getElem?_drop]
    rcases r.obj (h.length + i) with e | ⟨e, -⟩ | ⟨e, hn, -⟩
    · rw [e, List.getElem?_append_right (by omega)]; congr 1; omega
    · omega
    · have := b2 hn; omega
  have ht : h' = h'.take h.length ++ g := by rw [← hd, List.take_append_drop]
  have hlt : (h'.take h.length).length = h.length := by rw [List.length_take]; omega
  have un : ∀ {o : Nat} {x}, h'[o]? = some x → o < h.length → (h'.take h.length)[o]? = some x := fun ho hlo => by rw [List.getElem?_take, if_pos hlo]; exact ho
  refine ⟨h'.take h.length, ht, ⟨hlt, fun o => ?_⟩, ⟨un H'.hx b1, H'.ra, fun hn => un (H'.hr hn) (b2 hn), H'.wf⟩⟩
  by_cases ho : o < h.length
  · rw [List.getElem?_take, if_pos ho]
    rcases r.obj o with e | e | e
    · rw [e, List.getElem?_append_left ho]; exact .inl rfl
    · exact .inr (.inl e)
    · exact .inr (.inr e)
  · rw [List.getElem?_take, if_neg ho, List.getElem?_eq_none (by omega)]; exact .inl rfl
theorem RUB.keep {hh h' : Heap} (H : AH c h st) (r : RUB c hh h') {o : Nat} (ho : h.length ≤ o) : h'[o]? = hh[o]? := by
  obtain ⟨b1, b2⟩ := H.below
  rcases r.obj o with e | ⟨e, -⟩ | ⟨e, hn, -⟩
  · exact e
  · omega
  · have := b2 hn; omega
theorem WRet.unit {h1 : Heap} {K : AV → Heap → Prop} (hs : HS h.length h h1) (hk : K (.tup []) h1) : WRet h K (.tup []) (h1 ++ g) :=
  ⟨.tup [], h1, Wk.free (.tup [] [] rfl fun i x y h => by simp at h) hs, hk⟩
end
end Go.Am

set_option maxRecDepth 100000
set_option maxHeartbeats 1000000
set_option linter.unusedSimpArgs false
set_option linter.unusedVariables false
namespace Go.Am
open Go Go.Proofs
structure BOk (m : MMod) (p : MProc) (c : AC) : Prop where
  n : (c.n : Int) = p.regs
  T : c.T = p.top m
  small : c.T < 1099511627776
theorem run69c (m : MMod) (p : MProc) (c : AC) (ok : BOk m p c) (st : BSt) (i : MIns) (h9 : i.op = 9) (hl : i.Lens) (hb : InsB p m i) (b : MBlk) (hbm : b ∈ p.blocks) (him : i ∈ b.ins) (h : Heap) (H : AH c h st) (K)
    (hK : ∀ h' st', AH c h' st' → RUB c h h' → GoodB m p c.n c.T st st' → (st' = st → InsC p st.sets i) → K (.tup []) h') : RunsK Try.prog 69 [.ptr c.x 2 0 0 [], I p.objects.length, i.enc] h K := by
  refine RunsK.intro Try.func69 rfl (by decide) (by simp only [Try.f69, go_sem]; decide) ?_
  simp only [Try.f69]
  simp only [go_sem, Nat.reduceAdd, Nat.reduceMul, Nat.reduceEqDiff, Nat.reduceLeDiff, List.range_zero, List.drop_zero, List.nil_append, reduceIte]
  obtain ⟨hh, hhd⟩ : ∃ hh, hh = h ++ [some (AObj.arr 39 11 [i.enc])] := ⟨_, rfl⟩
  have HH : AH c hh st := hhd ▸ H.app
  have hi0 : hh[h.length]? = some (some (AObj.arr 39 11 [i.enc])) := by rw [hhd]; simp
  rw [← hhd]
  have hbx : ∀ h', RUB c hh h' → h'[h.length]? = some (some (AObj.arr 39 11 [i.enc])) := fun h' r => (r.keep H (Nat.le_refl _)).trans hi0
  have fin : ∀ h' st', AH c h' st' → RUB c hh h' → GoodB m p c.n c.T st st' → (st' = st → InsC p st.sets i) → WRet h K (.tup []) h' := by
    intro h' st' H' r hg hc
    have H0 := H
    subst hhd
    obtain ⟨h1, rfl, r1, H1⟩ := H.split H' r
    exact WRet.unit (RUB.hs H0 r1) (hK h1 st' H1 r1 hg hc)
  have clo : ∀ s, Closed m p s → InsC p s i := fun s hs => hs.ins b hbm i him
  have hwf := HH.wf
  have hn := ok.n
  have hT := ok.T
  have hsm := ok.small
  unfold MProc.top at hT
  have reg : ∀ r : Int, 0 ≤ r → r < p.regs → ∃ k : Nat, r = k ∧ k < c.n := fun r h1 h2 => ⟨r.toNat, by omega, by omega⟩
  have hargs := hb.args h9
  have hret := hb.ret h9
  have hal := hl.args
  unfold Len at hal
  by_cases hdm : i.d = -1
  · have hG1 : GoodB m p c.n c.T st st := .refl hwf
    have H1 := HH
    have r1 : RUB c hh hh := .refl
    have hc1 : st = st → i.d ≠ -1 → ∀ t, st.sets.O t → st.sets.R i.d.toNat t := fun _ x => absurd hdm x
    simp only [h9, hdm, decide_true, decide_false, Int.reduceEq, Int.reduceNeg, hi0, go_sem, Nat.reduceAdd, Nat.reduceMul, Nat.reduceEqDiff, Nat.reduceLeDiff, List.range_zero, List.drop_zero, List.nil_append, reduceIte]
    obtain ⟨st1, hst1⟩ : ∃ st1, st1 = st := ⟨_, rfl⟩
    rw [← hst1] at H1
    have hG1 : GoodB m p c.n c.T st st1 := hst1 ▸ hG1
    have hc1 : st1 = st → i.d ≠ -1 → ∀ t, st.sets.O t → st.sets.R i.d.toNat t := fun _ => hc1 rfl
    clear hst1
    refine aLoop_nat [0, 5, 6] i.args.length (fun k vs h2 => ∃ st2, AH c h2 st2 ∧ RUB c hh h2 ∧ GoodB m p c.n c.T st1 st2 ∧ (st2 = st1 → ∀ r ∈ i.args.take k, ∀ t, st1.sets.R r.toNat t → st1.sets.O t) ∧ vs = [.ptr c.x 2 0 0 [], .ptr h.length 11 0 0 [], I k]) ?_ ?_
    · simp only [go_sem, Nat.reduceAdd, Nat.reduceMul, Nat.reduceEqDiff, Nat.reduceLeDiff, List.range_zero, List.drop_zero, List.nil_append, reduceIte]
      exact ⟨st1, H1, r1, .refl H1.wf, fun _ r hr => by simp at hr, rfl⟩
    · rintro k vs h2 hk - ⟨st2, H2, r2, hG2, hc2, rfl⟩ I' μ m' hnx
      have hx2 := hbx _ r2
      simp only [ltI, hx2, go_sem, Nat.reduceAdd, Nat.reduceMul, Nat.reduceEqDiff, Nat.reduceLeDiff, List.range_zero, List.drop_zero, List.nil_append, reduceIte]
      refine AIf_intro (fun hlt => ?_) (fun hge => ?_)
      · simp only [decide_eq_true_eq] at hlt
        obtain ⟨q1, q2⟩ := hargs _ (List.getElem_mem hlt)
        obtain ⟨a, ha, han⟩ := reg _ q1 q2
        have hgd := getD_map I i.args hlt
        rw [ha] at hgd
        have hw2 := H2.wf
        have hal2 : a < st2.regs.length := by rw [hw2.regs]; exact han
        have hra := WFB.len hw2 han
        have hol := hw2.out
        have hG3 : GoodB m p c.n c.T st2 _ := GoodB.let_ hw2 han fun s hs t ht => by
          have := (clo s hs).args h9 _ (List.getElem_mem hlt) t
          rw [ha] at this
          exact this ht
        obtain ⟨H3, r3⟩ := H2.setOut (out := orB st2.out (st2.regs.getD a [])) ⟨hw2.regs, hw2.row, by rw [orB_length (by omega), hol]⟩
        have e0 : allObj c.ra (orB st2.out (st2.regs.getD a [])) = allObj (.sl c.rr 1 0 c.n c.cr) (orB st2.out (st2.regs.getD a [])) := by
          rcases HH.ra with ⟨e, -⟩ | ⟨-, e⟩
          · omega
          · rw [e]
        rw [e0] at H3 r3
        simp only [go_sem, Nat.reduceAdd, Nat.reduceMul, Nat.reduceEqDiff, Nat.reduceLeDiff, List.range_zero, List.drop_zero, List.nil_append, reduceIte]
        refine aw_drawn st69_17 mixed (by kernel_rfl) ?_
        simp only [hx2, H2.hx' han, H2.hr' han, bnd hlt, hgd, bnd han, hal2, toNatC, go_sem, Nat.reduceAdd, Nat.reduceMul, Nat.reduceEqDiff, Nat.reduceLeDiff, List.range_zero, List.drop_zero, List.nil_append, reduceIte]
        refine run70 _ _ (by omega) (by omega) _ _ ?_
        simp only [hx2, H2.hx' han, H2.hr' han, bnd hlt, hgd, bnd han, hal2, toNatC, inc64 hlt hal, go_sem, Nat.reduceAdd, Nat.reduceMul, Nat.reduceEqDiff, Nat.reduceLeDiff, List.range_zero, List.drop_zero, List.nil_append, reduceIte]
        refine hnx _ _ hlt ⟨_, H3, r2.trans r3, hG2.trans hG3, fun e r hr => ?_, rfl⟩
        have e3 := hG3.le
        have e2 := hG2.le
        rw [e] at e3
        have e5 := hG2.eq (by omega)
        subst e5
        rw [List.take_succ_eq_append_getElem hlt] at hr
        rcases List.mem_append.1 hr with hr | hr
        · exact hc2 rfl r hr
        · simp at hr
          rw [hr, ha]
          exact letB_fix hw2 han e
      · simp only [decide_eq_false_iff_not] at hge
        have hkk : k = i.args.length := by omega
        subst hkk
        rw [List.take_length] at hc2
        simp only [go_sem, Nat.reduceAdd, Nat.reduceMul, Nat.reduceEqDiff, Nat.reduceLeDiff, List.range_zero, List.drop_zero, List.nil_append, reduceIte]
        refine fin h2 st2 H2 r2 (hG1.trans hG2) fun e => ?_
        have e2 := hG2.le
        have e1 := hG1.le
        rw [e] at e2
        have e4 := hG1.eq (by omega)
        subst e4
        exact insC9 h9 (hc2 e) (hc1 rfl)
  · obtain ⟨d, hd, hdn⟩ := reg i.d (by omega) (by omega)
    have hdl : d < st.regs.length := by rw [hwf.regs]; exact hdn
    have hrl := WFB.len hwf hdn
    have hol := hwf.out
    have hG1 : GoodB m p c.n c.T st _ := GoodB.joinO hwf hdn fun s hs t ht => by
      have := (clo s hs).call h9 hdm t
      rw [hd] at this
      exact this ht
    obtain ⟨H1, r1⟩ := HH.setReg (by omega) (WFB.set hwf (d := d) (row := orB (st.regs.getD d []) st.out) (by rw [orB_length (by omega), hrl]))
    have hc1 : ({ st with regs := st.regs.set d (orB (st.regs.getD d []) st.out) } : BSt) = st → i.d ≠ -1 → ∀ t, st.sets.O t → st.sets.R i.d.toNat t := fun he _ => by rw [hd]; exact orR_fix hwf hdn hol he
    have hx1 := hbx _ r1
    have dm : decide (i.d = -1) = false := by simp [hdm]
    simp only [h9, dm, decide_true, decide_false, Int.reduceEq, hi0, go_sem, Nat.reduceAdd, Nat.reduceMul, Nat.reduceEqDiff, Nat.reduceLeDiff, List.range_zero, List.drop_zero, List.nil_append, reduceIte]
    refine aw_drawn st69_10 mixed (by kernel_rfl) ?_
    simp only [hi0, HH.hx' hdn, HH.hr' hdn, hd, bnd hdn, hdl, toNatC, go_sem, Nat.reduceAdd, Nat.reduceMul, Nat.reduceEqDiff, Nat.reduceLeDiff, List.range_zero, List.drop_zero, List.nil_append, reduceIte]
    refine run70 _ _ (by omega) (by omega) _ _ ?_
    simp only [hi0, HH.hx' hdn, HH.hr' hdn, hd, bnd hdn, hdl, toNatC, hx1, h9, decide_true, decide_false, Int.reduceEq, go_sem, Nat.reduceAdd, Nat.reduceMul, Nat.reduceEqDiff, Nat.reduceLeDiff, List.range_zero, List.drop_zero, List.nil_append, reduceIte]
    generalize hst1 : ({ st with regs := st.regs.set d (orB (st.regs.getD d []) st.out) } : BSt) = st1 at hG1 H1 hc1
    generalize hh.set c.rr (some (regsB (st.regs.set d (orB (st.regs.getD d []) st.out)))) = h1 at H1 r1 hx1
    refine aLoop_nat [0, 5, 6] i.args.length (fun k vs h2 => ∃ st2, AH c h2 st2 ∧ RUB c hh h2 ∧ GoodB m p c.n c.T st1 st2 ∧ (st2 = st1 → ∀ r ∈ i.args.take k, ∀ t, st1.sets.R r.toNat t → st1.sets.O t) ∧ vs = [.ptr c.x 2 0 0 [], .ptr h.length 11 0 0 [], I k]) ?_ ?_
    · simp only [go_sem, Nat.reduceAdd, Nat.reduceMul, Nat.reduceEqDiff, Nat.reduceLeDiff, List.range_zero, List.drop_zero, List.nil_append, reduceIte]
      exact ⟨st1, H1, r1, .refl H1.wf, fun _ r hr => by simp at hr, rfl⟩
    · rintro k vs h2 hk - ⟨st2, H2, r2, hG2, hc2, rfl⟩ I' μ m' hnx
      have hx2 := hbx _ r2
      simp only [ltI, hx2, go_sem, Nat.reduceAdd, Nat.reduceMul, Nat.reduceEqDiff, Nat.reduceLeDiff, List.range_zero, List.drop_zero, List.nil_append, reduceIte]
      refine AIf_intro (fun hlt => ?_) (fun hge => ?_)
      · simp only [decide_eq_true_eq] at hlt
        obtain ⟨q1, q2⟩ := hargs _ (List.getElem_mem hlt)
        obtain ⟨a, ha, han⟩ := reg _ q1 q2
        have hgd := getD_map I i.args hlt
        rw [ha] at hgd
        have hw2 := H2.wf
        have hal2 : a < st2.regs.length := by rw [hw2.regs]; exact han
        have hra := WFB.len hw2 han
        have hol := hw2.out
        have hG3 : GoodB m p c.n c.T st2 _ := GoodB.let_ hw2 han fun s hs t ht => by
          have := (clo s hs).args h9 _ (List.getElem_mem hlt) t
          rw [ha] at this
          exact this ht
        obtain ⟨H3, r3⟩ := H2.setOut (out := orB st2.out (st2.regs.getD a [])) ⟨hw2.regs, hw2.row, by rw [orB_length (by omega), hol]⟩
        have e0 : allObj c.ra (orB st2.out (st2.regs.getD a [])) = allObj (.sl c.rr 1 0 c.n c.cr) (orB st2.out (st2.regs.getD a [])) := by
          rcases HH.ra with ⟨e, -⟩ | ⟨-, e⟩
          · omega
          · rw [e]
        rw [e0] at H3 r3
        simp only [go_sem, Nat.reduceAdd, Nat.reduceMul, Nat.reduceEqDiff, Nat.reduceLeDiff, List.range_zero, List.drop_zero, List.nil_append, reduceIte]
        refine aw_drawn st69_17 mixed (by kernel_rfl) ?_
        simp only [hx2, H2.hx' han, H2.hr' han, bnd hlt, hgd, bnd han, hal2, toNatC, go_sem, Nat.reduceAdd, Nat.reduceMul, Nat.reduceEqDiff, Nat.reduceLeDiff, List.range_zero, List.drop_zero, List.nil_append, reduceIte]
        refine run70 _ _ (by omega) (by omega) _ _ ?_
        simp only [hx2, H2.hx' han, H2.hr' han, bnd hlt, hgd, bnd han, hal2, toNatC, inc64 hlt hal, go_sem, Nat.reduceAdd, Nat.reduceMul, Nat.reduceEqDiff, Nat.reduceLeDiff, List.range_zero, List.drop_zero, List.nil_append, reduceIte]
        refine hnx _ _ hlt ⟨_, H3, r2.trans r3, hG2.trans hG3, fun e r hr => ?_, rfl⟩
        have e3 := hG3.le
        have e2 := hG2.le
        rw [e] at e3
        have e5 := hG2.eq (by omega)
        subst e5
        rw [List.take_succ_eq_append_getElem hlt] at hr
        rcases List.mem_append.1 hr with hr | hr
        · exact hc2 rfl r hr
        · simp at hr
          rw [hr, ha]
          exact letB_fix hw2 han e
      · simp only [decide_eq_false_iff_not] at hge
        have hkk : k = i.args.length := by omega
        subst hkk
        rw [List.take_length] at hc2
        simp only [go_sem, Nat.reduceAdd, Nat.reduceMul, Nat.reduceEqDiff, Nat.reduceLeDiff, List.range_zero, List.drop_zero, List.nil_append, reduceIte]
        refine fin h2 st2 H2 r2 (hG1.trans hG2) fun e => ?_
        have e2 := hG2.le
        have e1 := hG1.le
        rw [e] at e2
        have e4 := hG1.eq (by omega)
        subst e4
        exact insC9 h9 (hc2 e) (hc1 rfl)
end Go.Am
