/- A part of the proof that AliasThings and AliasMeets return true for every module: texts on an abstract reading of the code (AlW6). -/
import Derived.Test.YtdmaniffgdpfeaaXAlW5
set_option linter.unusedVariables false
set_option linter.unusedSimpArgs false
set_option linter.unusedSectionVars false
set_option maxRecDepth 100000
set_option maxHeartbeats 1000000
set_option linter.unusedSimpArgs false
set_option linter.unusedVariables false
namespace Go.Am
open Go Go.Proofs
theorem has_zero {W t : Nat} : has (List.replicate W 0#64) t = false := by
  unfold has
  by_cases h : t / 64 < W
  · simp [List.getD, h]
  · simp [List.getD, List.getElem?_eq_none, h]
theorem spots0 {k : Nat} : AObj.arr 106 4 (List.replicate k (AV.agg [AV.val (Value.int IntKind.i64 0), AV.val (Value.int IntKind.i64 0), AV.val (Value.int IntKind.i64 0), AV.val (Value.bool false)])) = spotsObj (List.replicate k .none) := by
  rw [spotsObj, List.map_replicate]; rfl
def spotP (params : Int) (i : Nat) : Spot := if (i : Int) < params then ⟨0, 0, 1, false⟩ else .none
def spk (params : Int) (k j : Nat) : List Spot := (List.range k).map fun i => if i < j then spotP params i else .none
theorem spk_get {params : Int} {k j i : Nat} : (spk params k j)[i]? = if i < k then some (if i < j then spotP params i else .none) else none := by
  unfold spk
  by_cases h : i < k
  · rw [if_pos h, List.getElem?_map, List.getElem?_range h]; rfl
  · rw [if_neg h, List.getElem?_eq_none (by simpa using h)]
theorem spk_len {params : Int} {k j : Nat} : (spk params k j).length = k := by simp [spk]
theorem spk_set {params : Int} {k j : Nat} (hj : j < k) (hp : (j : Int) < params) : (spk params k j).set j ⟨0, 0, 1, false⟩ = spk params k (j + 1) := by
  apply List.ext_getElem?
  intro i
  rw [List.getElem?_set, spk_get, spk_get, spk_len]
  by_cases e : j = i
  · subst e
    rw [if_pos rfl, if_pos hj, if_pos hj, if_pos (Nat.lt_succ_self _), spotP, if_pos hp]
  · rw [if_neg e]
    by_cases h1 : i < j
    · rw [if_pos h1, if_pos (show i < j + 1 by omega)]
    · rw [if_neg h1, if_neg (show ¬ i < j + 1 by omega)]
theorem spk_skip {params : Int} {k j : Nat} (hp : ¬ (j : Int) < params) : spk params k j = spk params k (j + 1) := by
  apply List.ext_getElem?
  intro i
  rw [spk_get, spk_get]
  by_cases e : j = i
  · subst e
    rw [if_neg (Nat.lt_irrefl _), if_pos (Nat.lt_succ_self _), spotP, if_neg hp]
  · by_cases h1 : i < j
    · rw [if_pos h1, if_pos (show i < j + 1 by omega)]
    · rw [if_neg h1, if_neg (show ¬ i < j + 1 by omega)]
theorem spk_none {params : Int} {k j : Nat} (hj : j < k) : (spk params k j).getD j .none = .none := by
  rw [List.getD, spk_get, if_pos hj, if_neg (Nat.lt_irrefl _)]; rfl
theorem has_push {rows : List (List W64)} {j : Nat} {out row : List W64} {params : Int} (hl : rows.length = j) (hrows : ∀ r t, r < j → has (rows.getD r []) t = (decide ((r : Int) < params) && has out t)) (hrow : ∀ t, has row t = (decide ((j : Int) < params) && has out t))
    (r t : Nat) (hr : r < j + 1) : has ((rows ++ [row]).getD r []) t = (decide ((r : Int) < params) && has out t) := by
  by_cases h : r < j
  · rw [show (rows ++ [row]).getD r [] = rows.getD r [] by simp [List.getD, List.getElem?_append_left (show r < rows.length by omega)]]
    exact hrows r t h
  · have : r = j := by omega
    subst this
    rw [show (rows ++ [row]).getD r [] = row by simp [List.getD, hl]]
    exact hrow t
/-- a loop with a state told beside -/
theorem aLoop_gh {α : Type} {P c tm h} {K : Kont} (sl : List Nat) (I : α → List AV → Heap → Prop) (mu : α → Nat) (h0 : ∃ a, I a (gets tm sl) h)
   (hr : ∀ a vs h, vs.length = sl.length → I a vs h → ∀ (I' : List AV → Heap → Prop) μ m, (∀ a' vs h, mu a' < mu a → I a' vs h → I' vs h ∧ μ vs h < m) → aw P c (mkT tm.length (sl.zip vs)) h (kLoop sl I' μ m K)) : aLoop P c tm h K := by
  refine aLoop_intro sl (fun vs h => ∃ a, I a vs h) (fun vs h => minOf fun m => ∃ a, I a vs h ∧ m = mu a) h0 ?_
  rintro vs h1 hvl ⟨a0, hI0⟩
  obtain ⟨⟨a, hI, he⟩, -⟩ := minOf_spec (S := fun m => ∃ a, I a vs h1 ∧ m = mu a) ⟨mu a0, a0, hI0, rfl⟩
  refine hr a vs h1 hvl hI _ _ _ fun a' vs' h' hlt hI' => ⟨⟨a', hI'⟩, ?_⟩
  have := (minOf_spec (S := fun m => ∃ a, I a vs' h' ∧ m = mu a) ⟨mu a', a', hI', rfl⟩).2 (mu a') ⟨a', hI', rfl⟩
  omega
def spEv (p : MProc) (sp : List Spot) : AEv → List Spot
  | .ins i => spStep p sp i
  | .ret _ => sp
def E1 (m : MMod) (p : MProc) (n W : Nat) : AEv → SS → SS → Bool → Prop
  | .ins i, s, s', g => s'.1 = s.1 ∧ s'.2 = spStep p s.2 i ∧ g = false
  | .ret _, s, s', g => Good m p n W s.1 s'.1 g ∧ s'.2 = s.2
def EvC (p : MProc) (s : ASets) : AEv → Prop
  | .ins i => InsC p s i
  | .ret a => ∀ t, s.R a.toNat t → s.O t
def E2 (m : MMod) (p : MProc) (n W : Nat) (e : AEv) (s s' : SS) (g : Bool) : Prop := Good m p n W s.1 s'.1 g ∧ (g = false → EvC p s.1.sets e) ∧ s'.2 = s.2
theorem steps1 {m p n W l} {s s' : SS} {g} (h : Steps (E1 m p n W) l s s' g) (hw : s.1.WF n W) : (∃ g', Good m p n W s.1 s'.1 g') ∧ s'.2 = l.foldl (spEv p) s.2 := by
  induction h with
  | nil s => exact ⟨⟨false, .refl hw⟩, rfl⟩
  | snoc h h2 hg ih =>
    rename_i l e s s1 s2 g1 g2 g
    obtain ⟨⟨g', i1⟩, i2⟩ := ih hw
    rw [List.foldl_append, ← i2]
    cases e with
    | ins i =>
      obtain ⟨a, b, c⟩ := h2
      exact ⟨⟨g', by rw [a]; exact i1⟩, b⟩
    | ret a =>
      obtain ⟨a, b⟩ := h2
      exact ⟨⟨_, i1.trans a rfl⟩, b⟩
theorem steps2 {m p n W l} {s s' : SS} {g} (h : Steps (E2 m p n W) l s s' g) (hw : s.1.WF n W) : Good m p n W s.1 s'.1 g ∧ s'.2 = s.2 ∧ (g = false → ∀ e ∈ l, EvC p s.1.sets e) := by
  induction h with
  | nil s => exact ⟨.refl hw, rfl, fun _ e he => by simp at he⟩
  | snoc h h2 hg ih =>
    rename_i l e s s1 s2 g1 g2 g
    obtain ⟨i1, i2, i3⟩ := ih hw
    obtain ⟨a, b, c⟩ := h2
    refine ⟨i1.trans a (by rw [hg, Bool.or_comm]), c.trans i2, fun hf e' he' => ?_⟩
    rw [hg, Bool.or_eq_false_iff] at hf
    rcases List.mem_append.1 he' with he' | he'
    · exact i3 hf.2 e' he'
    · simp at he'
      subst he'
      have := i1.eq hf.2
      have hb := b hf.1
      rw [this] at hb
      exact hb
theorem spEv_bound {p : MProc} (l : List AEv) : ∀ (sp : List Spot) (B : Int), 0 ≤ B → (∀ s ∈ sp, 0 ≤ s.sets ∧ s.sets ≤ B) → ∀ s ∈ l.foldl (spEv p) sp, 0 ≤ s.sets ∧ s.sets ≤ B + l.length := by
  induction l with
  | nil => intro sp B hB h s hs; simpa using h s hs
  | cons e l ih =>
    intro sp B hB h s hs
    rw [List.foldl_cons] at hs
    have := ih (spEv p sp e) (B + 1) (by omega) (fun s hs => ?_) s hs
    · simp only [List.length_cons]; omega
    · cases e with
      | ret a => have := h s hs; omega
      | ins i =>
        simp only [spEv, spStep] at hs
        split at hs
        · have := h s hs; omega
        · rcases List.mem_or_eq_of_mem_set hs with hs | hs
          · have := h s hs; omega
          · have hd : 0 ≤ (sp.getD i.dreg.toNat Spot.none).sets ∧ (sp.getD i.dreg.toNat Spot.none).sets ≤ B ∨ (sp.getD i.dreg.toNat Spot.none).sets = 0 := by
              by_cases hl : i.dreg.toNat < sp.length
              · rw [getD_eq hl]; exact .inl (h _ (List.getElem_mem hl))
              · right; simp [List.getD, List.getElem?_eq_none (show sp.length ≤ i.dreg.toNat by omega)]; rfl
            have hs2 : s.sets = (sp.getD i.dreg.toNat Spot.none).sets + 1 := by
              rw [hs, spotStep]; split <;> rfl
            rcases hd with hd | hd <;> omega
theorem evs_len (l : List MBlk) : (evsOf l).length ≤ insOf l + l.length := by
  induction l with
  | nil => simp [evsOf]
  | cons b l ih =>
    have e : evsOf (b :: l) = blkEv b ++ evsOf l := rfl
    have : (blkEv b).length ≤ b.ins.length + 1 := by
      simp only [blkEv, List.length_append, List.length_map, retEv]
      split <;> simp
    rw [e, List.length_append, insOf_cons, List.length_cons]
    omega
theorem mem_evs {l : List MBlk} {e : AEv} : e ∈ evsOf l ↔ ∃ b ∈ l, e ∈ blkEv b := by simp [evsOf, List.mem_flatMap]
theorem dreg_of {p m i} (h : InsB p m i) : i.dreg = -1 ∨ (0 ≤ i.dreg ∧ i.dreg < p.regs) := by
  unfold MIns.dreg
  split
  · rename_i e
    by_cases h9 : i.op = 9
    · exact h.ret h9
    · exact .inr (h.d (by omega) h9 (by omega) (by omega))
  · exact .inl rfl
def rowIl (ws : List W64) : AV := .il 1 (ws.map U64)
/-- a view that is written no more -/
structure AView where
  p : MProc
  T : Nat
  st : VSt
  sp : List Spot
def AView.enc (v : AView) : AV := .agg [v.p.enc, I v.T, .il 1 (v.st.regs.map rowIl), rowIl v.st.out, .il 4 (v.sp.map Spot.enc)]
theorem rb_il {α : Type} {n sz : Nat} {f : α → AV} {l : List α} (h : ∀ a ∈ l, ∀ y ∈ flat (f a), RB n y) : RB n (.il sz (l.map f)) := by
  refine .il sz _ fun x hx => ?_
  induction l with
  | nil => simp [flats] at hx
  | cons a l ih =>
    simp only [List.map_cons, flats, List.mem_append] at hx
    rcases hx with hx | hx
    · exact h a (by simp) x hx
    · exact ih (fun a ha => h a (by simp [ha])) hx
theorem rb_proc {n : Nat} {p : MProc} : ∀ y ∈ flat p.enc, RB n y := by
  intro y hy
  simp only [MProc.enc, flat_agg, flats_cons, flats_nil, flat_val, flat_il, List.cons_append, List.nil_append, List.append_nil, List.mem_cons, List.not_mem_nil, or_false] at hy
  rcases hy with rfl | rfl | rfl | rfl | rfl | rfl
  · exact .val _
  · exact .val _
  · exact .val _
  · exact .val _
  · refine rb_il fun s _ y hy => ?_
    simp only [MSlot.enc, flat_agg, flats_cons, flats_nil, flat_val, List.cons_append, List.nil_append, List.append_nil, List.mem_cons, List.not_mem_nil, or_false] at hy
    rcases hy with rfl | rfl | rfl | rfl <;> exact .val _
  · refine rb_il fun b _ y hy => ?_
    simp only [MBlk.enc, flat_agg, flats_cons, flats_nil, flat_val, flat_il, List.cons_append, List.nil_append, List.append_nil, List.mem_cons, List.not_mem_nil, or_false] at hy
    rcases hy with rfl | rfl | rfl | rfl | rfl
    · refine rb_il fun i _ y hy => ?_
      simp only [MIns.enc, flat_agg, flats_cons, flats_nil, flat_val, flat_il, List.cons_append, List.nil_append, List.append_nil, List.mem_cons, List.not_mem_nil, or_false] at hy
      rcases hy with rfl | rfl | rfl | rfl | rfl | rfl | rfl | rfl | rfl | rfl | rfl
      all_goals first
        | exact .val _
        | (refine rb_il fun a _ y hy => ?_
           rw [flat_val] at hy
           simp at hy
           subst hy
           exact .val _)
    all_goals exact .val _
theorem frz_row {n : Nat} {h : Heap} {W o : Nat} {ws : List W64} (ho : h[o]? = some (some (rowObj ws))) (hn : n ≤ o) (hl : ws.length = W) : Frz n h (rowRef W o) (rowIl ws) := by
  refine .sl o 1 0 W (some W) 180 (ws.map U64) (ws.map U64) ho hn (by simp [hl]) (by simp [hl]) (fun y hy => ?_) fun i x y hx hy => ?_
  · obtain ⟨w, -, rfl⟩ := List.mem_map.1 hy
    exact ⟨rfl, rfl⟩
  · rw [Nat.zero_add] at hx
    rw [hx] at hy; cases hy
    obtain ⟨w, -, rfl⟩ := List.mem_map.1 (List.mem_of_getElem? hx)
    exact .pure _ (.val _)
theorem VH.frz {c : VC} {h : Heap} {st : VSt} {sp : List Spot} (H : VH c h st sp) (n : Nat) (hra : c.n = 0 → c.ra = .val (.slice none 0 0)) (h1 : n ≤ c.v) (h2 : n ≤ c.oo) (h3 : n ≤ c.os) (h4 : c.n ≠ 0 → n ≤ c.orr) (h5 : ∀ o ∈ c.ors, n ≤ o) :
    Frz n h (.ptr c.v 10 0 0 []) (.iptr (AView.enc ⟨c.p, c.T, st, sp⟩)) := by
  refine .ptr c.v 10 0 0 [] 101 _ _ _ _ H.hv h1 rfl (by rw [sub_nil]) (by rw [offs_nil]) (Frz.aggL (.cons ?_ (.cons .v (.cons ?_ (.cons ?_ (.cons ?_ .nil))))))
  · refine .pure _ (.agg _ fun x hx => ?_)
    exact rb_proc x (by rw [MProc.enc, flat_agg]; exact hx)
  · by_cases hn : c.n = 0
    · rw [hra hn]
      have : st.regs = [] := List.length_eq_zero_iff.1 (by rw [H.wf.regs, hn])
      rw [this]
      exact .nil 1
    · rw [H.ra hn]
      refine .sl c.orr 1 0 c.n c.cr 99 (c.ors.map (rowRef c.W)) (st.regs.map rowIl) (H.hr hn) (h4 hn) (by simp [H.len]) (by simp [H.wf.regs]) (fun y hy => ?_) fun i x y hx hy => ?_
      · obtain ⟨w, -, rfl⟩ := List.mem_map.1 hy
        exact ⟨rfl, rfl⟩
      · rw [Nat.zero_add, List.getElem?_map] at hx
        rw [List.getElem?_map] at hy
        simp only [Option.map_eq_some_iff] at hx hy
        obtain ⟨o, ho, rfl⟩ := hx
        obtain ⟨ws, hws, rfl⟩ := hy
        have := H.hw i o ho
        have e : st.regs.getD i [] = ws := by simp [List.getD, hws]
        rw [e] at this
        exact frz_row this (h5 o (List.mem_of_getElem? ho)) (H.wf.row ws (List.mem_of_getElem? hws))
  · exact frz_row H.ho h2 H.wf.out
  · refine .sl c.os 4 0 c.n c.cs 106 (sp.map Spot.enc) (sp.map Spot.enc) H.hs h3 (by simp [H.slen]) (by simp [H.slen]) (fun y hy => ?_) fun i x y hx hy => ?_
    · obtain ⟨s, -, rfl⟩ := List.mem_map.1 hy
      exact ⟨rfl, rfl⟩
    · rw [Nat.zero_add] at hx
      rw [hx] at hy; cases hy
      obtain ⟨s, -, rfl⟩ := List.mem_map.1 (List.mem_of_getElem? hx)
      refine .pure _ (.agg _ fun x hx => ?_)
      simp only [flats_cons, flats_nil, flat_val, List.cons_append, List.nil_append, List.append_nil, List.mem_cons, List.not_mem_nil, or_false] at hx
      rcases hx with rfl | rfl | rfl | rfl <;> exact .val _
/-- what the analysis comes to -/
structure VDone (m : MMod) (p : MProc) (k : Nat) (v : AView) : Prop where
  hp : v.p = p
  hT : v.T = p.top m
  wf : v.st.WF k ((p.top m + 63) / 64)
  R : ∀ r t, has (v.st.regs.getD r []) t = true ↔ (r < k ∧ LR m p r t)
  O : ∀ t, has v.st.out t = true ↔ LO m p t
  sp : v.sp = (evsOf p.blocks).foldl (spEv p) (spk p.params k k)
theorem run17 (m : MMod) (n : Nat) (hn : n < m.procs.length) (pb : ProcB m.procs[n] m) (pl : m.procs[n].Lens) (hg : m.globals.length ≤ 200) (h : Heap) (K) (hK : ∀ v, VDone m m.procs[n] (m.procs[n].regs.toNat) v → K (.tup [.iptr v.enc, I 0]) h) : RunsK Try.prog 17 [m.enc, I n] h K := by
  refine RunsK.intro Try.func17 rfl (by decide) (by simp only [Try.f17, go_sem]; decide) ?_
  simp only [Try.f17]
  have d0 : decide ((n : Int) < 0) = false := by simp
  have d1 : decide ((n : Int) ≥ m.procs.length) = false := by simp; omega
  have hgd := getD_map MProc.enc m.procs hn
  generalize m.procs[n] = p at hgd pb pl hK
  obtain ⟨k, hk⟩ : ∃ k : Nat, p.regs = k := ⟨p.regs.toNat, by have := pb.params; omega⟩
  have hk8 := pb.regs
  have hro : ARoom k 32 := ⟨by omega, by omega⟩
  have hob := pb.objects
  obtain ⟨T, hT⟩ : ∃ T, T = p.top m := ⟨_, rfl⟩
  obtain ⟨W, hW⟩ : ∃ W, W = (T + 63) / 64 := ⟨_, rfl⟩
  have hTe : T = p.objects.length + m.globals.length + 1 := hT
  have hw1 : IntKind.i64.wrap (IntKind.i64.wrap ((p.objects.length : Int) + m.globals.length) + 1) = ((T : Nat) : Int) := by
    rw [wrap_i64 (n := (p.objects.length : Int) + m.globals.length) (by omega) (by omega), wrap_i64 (by omega) (by omega)]; omega
  simp only [d0, d1, bnd hn, hgd, toNatC, go_sem, Nat.reduceAdd, Nat.reduceMul, Nat.reduceEqDiff, Nat.reduceLeDiff, List.range_zero, List.drop_zero, List.nil_append, reduceIte]
  refine aw_drawn st17_4 mixed (by kernel_rfl) ?_
  simp only [hk, toNatC, hro, hw1, spots0, go_sem, Nat.reduceAdd, Nat.reduceMul, Nat.reduceEqDiff, Nat.reduceLeDiff, List.range_zero, List.drop_zero, List.nil_append, reduceIte]
  refine run62 p T W _ (.val (.slice none 0 0)) (.val (.slice none 0 0)) (.sl (h.length + 2) 4 0 k (some k)) rfl rfl rfl (by omega) hW _ (by simp only [go_sem, Nat.reduceAdd, Nat.reduceMul, Nat.reduceEqDiff, Nat.reduceLeDiff, List.range_zero, List.drop_zero, List.nil_append, reduceIte]) _ ?_
  simp only [go_sem, Nat.reduceAdd, Nat.reduceMul, Nat.reduceEqDiff, Nat.reduceLeDiff, List.range_zero, List.drop_zero, List.nil_append, reduceIte]
  refine aLoop_nat [6, 7, 8] (T - p.objects.length) (fun j vs hh => ∃ ws, hh = h ++ [some (AObj.arr 26 4 [m.enc]), some (AObj.arr 32 6 [p.enc]), some (spotsObj (List.replicate k .none)), some (viewObj p T (.val (.slice none 0 0)) (rowRef W (h.length + 4)) (.sl (h.length + 2) 4 0 k (some k))), some (rowObj ws)] ∧
    ws.length = W ∧ (∀ t, has ws t = decide (p.objects.length ≤ t ∧ t < p.objects.length + j)) ∧ vs = [.ptr (h.length + 1) 6 0 0 [], .ptr (h.length + 3) 10 0 0 [], I (p.objects.length + j : Nat)]) ?_ ?_
  · simp only [go_sem, Nat.reduceAdd, Nat.reduceMul, Nat.reduceEqDiff, Nat.reduceLeDiff, List.range_zero, List.drop_zero, List.nil_append, reduceIte]
    exact ⟨_, rfl, by simp, fun t => by rw [has_zero]; symm; rw [decide_eq_false_iff_not]; omega⟩
  · rintro j vs hh hj - ⟨ws, rfl, hwl, hws, rfl⟩ I' μ m' hnx
    simp only [ltI, go_sem, Nat.reduceAdd, Nat.reduceMul, Nat.reduceEqDiff, Nat.reduceLeDiff, List.range_zero, List.drop_zero, List.nil_append, reduceIte]
    refine AIf_intro (fun hlt => ?_) (fun hge => ?_)
    · simp only [decide_eq_true_eq] at hlt
      simp only [go_sem, Nat.reduceAdd, Nat.reduceMul, Nat.reduceEqDiff, Nat.reduceLeDiff, List.range_zero, List.drop_zero, List.nil_append, reduceIte]
      have hti : (p.objects.length + j) / 64 < W := by rw [hW]; omega
      refine run63 _ W _ ws (p.objects.length + j) hwl hti (by omega) _ (by simp only [go_sem, Nat.reduceAdd, Nat.reduceMul, Nat.reduceEqDiff, Nat.reduceLeDiff, List.range_zero, List.drop_zero, List.nil_append, reduceIte]) _ ?_
      simp only [inc64 (n := p.objects.length + j) hlt (by omega), go_sem, Nat.reduceAdd, Nat.reduceMul, Nat.reduceEqDiff, Nat.reduceLeDiff, List.range_zero, List.drop_zero, List.nil_append, reduceIte]
      refine hnx _ _ (by omega) ⟨_, rfl, by rw [rowPut_length, hwl], fun t => ?_, rfl⟩
      rw [has_put (by omega), hws, Bool.eq_iff_iff]
      simp only [Bool.or_eq_true, decide_eq_true_eq]
      omega
    · simp only [decide_eq_false_iff_not] at hge
      have hjT : p.objects.length + j = T := by omega
      rw [hjT]
      have hge' : decide (T < T) = false := by simp
      simp only [hge', hk, go_sem, Nat.reduceAdd, Nat.reduceMul, Nat.reduceEqDiff, Nat.reduceLeDiff, List.range_zero, List.drop_zero, List.nil_append, reduceIte]
      have hpar := pb.params
      obtain ⟨out, hout⟩ : ∃ out, out = ws := ⟨_, rfl⟩
      rw [← hout]
      rw [← hout] at hwl hws
      clear hout hnx
      refine aLoop_nat [6, 7, 61, 62] k (fun j vs hh => ∃ ra orr ors rows, VB p T k W (h.length + 3) (h.length + 4) (h.length + 2) (h.length + 1) h.length j hh ra orr ors rows out (spk p.params k j) ∧ HB h hh ∧ h.length + 5 ≤ hh.length ∧
        (∀ r t, r < j → has (rows.getD r []) t = (decide ((r : Int) < p.params) && has out t)) ∧ vs = [.ptr (h.length + 1) 6 0 0 [], .ptr (h.length + 3) 10 0 0 [], I k, I j]) ?_ ?_
      · simp only [go_sem, Nat.reduceAdd, Nat.reduceMul, Nat.reduceEqDiff, Nat.reduceLeDiff, List.range_zero, List.drop_zero, List.nil_append, reduceIte]
        refine ⟨.val (.slice none 0 0), 0, [], [], ⟨by simp only [go_sem, Nat.reduceAdd, Nat.reduceMul, Nat.reduceEqDiff, Nat.reduceLeDiff, List.range_zero, List.drop_zero, List.nil_append, reduceIte], .inl ⟨rfl, rfl⟩, by simp only [go_sem, Nat.reduceAdd, Nat.reduceMul, Nat.reduceEqDiff, Nat.reduceLeDiff, List.range_zero, List.drop_zero, List.nil_append, reduceIte], ?_, by simp only [go_sem, Nat.reduceAdd, Nat.reduceMul, Nat.reduceEqDiff, Nat.reduceLeDiff, List.range_zero, List.drop_zero, List.nil_append, reduceIte], fun i o e => by simp at e, rfl, rfl, by simp, hwl, by simp, spk_len, by simp, fun e => (e rfl).elim⟩, HB.refl.app, by simp, fun r t hr => by omega, rfl⟩
        have : spk p.params k 0 = List.replicate k Spot.none := by
          simp only [spk, Nat.not_lt_zero, if_false, List.map_const', List.length_range]
        rw [this]
        simp only [go_sem, Nat.reduceAdd, Nat.reduceMul, Nat.reduceEqDiff, Nat.reduceLeDiff, List.range_zero, List.drop_zero, List.nil_append, reduceIte]
      · rintro j vs hh hj - ⟨ra, orr, ors, rows, H, hb, hl5, hrows, rfl⟩ I2 μ2 m2 hnx2
        simp only [ltI, go_sem, Nat.reduceAdd, Nat.reduceMul, Nat.reduceEqDiff, Nat.reduceLeDiff, List.range_zero, List.drop_zero, List.nil_append, reduceIte]
        refine AIf_intro (fun hlt => ?_) (fun hge => ?_)
        · simp only [decide_eq_true_eq] at hlt
          rcases H.ra with ⟨h0, rfl⟩ | ⟨h0, rfl, hor⟩
          · simp only [go_sem, Nat.reduceAdd, Nat.reduceMul, Nat.reduceEqDiff, Nat.reduceLeDiff, List.range_zero, List.drop_zero, List.nil_append, reduceIte]
            refine aw_drawn st17_13 mixed (by kernel_rfl) ?_
            have hvA : ∀ g, (hh ++ g)[h.length + 3]? = _ := fun g => getApp H.hv
            simp only [H.hv,  toNatC, go_sem, Nat.reduceAdd, Nat.reduceMul, Nat.reduceEqDiff, Nat.reduceLeDiff, List.range_zero, List.drop_zero, List.nil_append, reduceIte]
            refine run62 p T W _ (.val (.slice none 0 0)) (rowRef W (h.length + 4)) (.sl (h.length + 2) 4 0 k (some k)) rfl rfl rfl (by omega) hW _ H.hv _ ?_
            have rm : ARoom (1) 24 := ⟨by omega, by omega⟩
            simp only [hvA,  toNatC, rm, go_sem, Nat.reduceAdd, Nat.reduceMul, Nat.reduceEqDiff, Nat.reduceLeDiff, List.range_zero, List.drop_zero, List.nil_append, reduceIte]
            obtain ⟨X, hX, HX, hbX, hlX⟩ := H.push0 h0 (by omega) (z := List.replicate W 0#64) (by simp)
            rw [← hX]
            replace hbX := hbX h rfl hb
            have hlX5 : h.length + 5 ≤ X.length := by omega
            clear hX
            have hlj : ors.length = j := H.len
            have hxo : (ors ++ [hh.length])[j]? = some hh.length := by rw [List.getElem?_append_right (by omega)]; simp [hlj]
            have hrj : (rows ++ [List.replicate W 0#64]).getD j [] = List.replicate W 0#64 := by simp [List.getD, H.rlen]
            have hdx : hh.length < X.length := lt_of (HX.hw j _ hxo)
            have hks : j < (spk p.params k j).length := by rw [spk_len]; exact hlt
            have hsj := spk_none (params := p.params) hlt
            have hxl : j < (ors ++ [hh.length]).length := by simp [hlj]
            have hxg : (ors ++ [hh.length]).getD j 0 = hh.length := by simp [List.getD, hlj]
            have hxr : X[hh.length + 2]? = some (some (regsObj W (ors ++ [hh.length]))) := by
              rcases HX.ra with ⟨e0, -⟩ | ⟨-, -, h1⟩
              · omega
              · exact h1
            have hxl2 : j < ors.length + 1 := by omega
            have bj : ABound (j : Int) ((j + 1 : Nat) : Int) := bnd (by omega)
            simp only [HX.hp, go_sem, Nat.reduceAdd, Nat.reduceMul, Nat.reduceEqDiff, Nat.reduceLeDiff, List.range_zero, List.drop_zero, List.nil_append, reduceIte]
            refine AIf_intro (fun hp => ?_) (fun hp => ?_)
            · have hp' : (j : Int) < p.params := by simpa using hp
              simp only [hp, go_sem, Nat.reduceAdd, Nat.reduceMul, Nat.reduceEqDiff, Nat.reduceLeDiff, List.range_zero, List.drop_zero, List.nil_append, reduceIte]
              refine aw_drawn st17_15 mixed (by kernel_rfl) ?_
              simp only [HX.hv, hxr, bj, hxl, hxl2, hxg, toNatC, go_sem, Nat.reduceAdd, Nat.reduceMul, Nat.reduceEqDiff, Nat.reduceLeDiff, List.range_zero, List.drop_zero, List.nil_append, reduceIte]
              have ezl : (List.replicate W 0#64).length = W := by simp
              have e1 := HX.hw j _ hxo
              rw [hrj] at e1
              refine run64 hh.length (h.length + 4) W _ _ (List.replicate W 0#64) out ezl hwl (by omega) X e1 HX.ho _ ?_
              have H2 := HX.setRow hxo (row := rowJoin (List.replicate W 0#64) out) (by rw [rowJoin_length (by omega), ezl])
              have hb2 := hbX.set (o := hh.length) (x := some (rowObj (rowJoin (List.replicate W 0#64) out))) (by omega)
              have hl2 : h.length + 5 ≤ (X.set hh.length (some (rowObj (rowJoin (List.replicate W 0#64) out)))).length := by rw [List.length_set]; exact hlX5
              generalize X.set hh.length (some (rowObj (rowJoin (List.replicate W 0#64) out))) = X2 at H2 hb2 hl2
              simp only [H2.hv, H2.hs, bnd hlt, hks, toNatC, hsj, inc64 hlt (by omega : k < 9223372036854775808), go_sem, Nat.reduceAdd, Nat.reduceMul, Nat.reduceEqDiff, Nat.reduceLeDiff, List.range_zero, List.drop_zero, List.nil_append, reduceIte]
              have H3 := H2.setSpot (sp' := spk p.params k (j + 1)) spk_len
              rw [show ({ thing := Spot.none.thing, off := Spot.none.off, sets := 1, is := Spot.none.is } : Spot) = ⟨0, 0, 1, false⟩ from rfl, spk_set hlt hp']
              have erow : (rows ++ [List.replicate W 0#64]).set j (rowJoin (List.replicate W 0#64) out) = rows ++ [rowJoin (List.replicate W 0#64) out] := by
                rw [List.set_append_right _ _ (by rw [H.rlen]; omega), H.rlen]; simp
              rw [erow] at H3
              refine hnx2 _ _ hlt ⟨_, _, _, _, H3, hb2.set (by omega), by rw [List.length_set]; exact hl2, has_push H.rlen hrows fun t => ?_, rfl⟩
              rw [has_join (by omega), has_zero, hp]; rfl
            · have hp' : ¬ (j : Int) < p.params := by simpa using hp
              simp only [hp, inc64 hlt (by omega : k < 9223372036854775808), go_sem, Nat.reduceAdd, Nat.reduceMul, Nat.reduceEqDiff, Nat.reduceLeDiff, List.range_zero, List.drop_zero, List.nil_append, reduceIte]
              rw [spk_skip hp'] at HX
              refine hnx2 _ _ hlt ⟨_, _, _, _, HX, hbX, hlX5, has_push H.rlen hrows fun t => ?_, rfl⟩
              rw [has_zero, hp]; rfl
          · simp only [go_sem, Nat.reduceAdd, Nat.reduceMul, Nat.reduceEqDiff, Nat.reduceLeDiff, List.range_zero, List.drop_zero, List.nil_append, reduceIte]
            refine aw_drawn st17_13 mixed (by kernel_rfl) ?_
            have hvA : ∀ g, (hh ++ g)[h.length + 3]? = _ := fun g => getApp H.hv
            have horA : ∀ g, (hh ++ g)[orr]? = _ := fun g => getApp hor
            have hol := lt_of hor
            have hvS : ∀ g, (((hh ++ [some (rowObj (List.replicate W 0#64)), some (AObj.arr 99 1 [rowRef W hh.length])]).set orr none) ++ g)[h.length + 3]? = _ := fun g => getApp (by
              rw [getS_ne (by rintro e; rw [e] at hor; rw [H.hv] at hor; cases hor)]; exact hvA _)
            have htk : (ors.map (rowRef W)).take j = ors.map (rowRef W) := List.take_of_length_le (by simp [H.len])
            have hjl : j ≤ ors.length := Nat.le_of_eq H.len.symm
            simp only [H.hv, hor, horA,  toNatC, go_sem, Nat.reduceAdd, Nat.reduceMul, Nat.reduceEqDiff, Nat.reduceLeDiff, List.range_zero, List.drop_zero, List.nil_append, reduceIte]
            refine run62 p T W _ (.sl orr 1 0 j none) (rowRef W (h.length + 4)) (.sl (h.length + 2) 4 0 k (some k)) rfl rfl rfl (by omega) hW _ H.hv _ ?_
            have rm : ARoom (j + 1) 24 := ⟨by omega, by omega⟩
            simp only [hvA, hor, horA,  toNatC, rm, hvS, htk, Nat.le_refl, List.length_map, H.len, go_sem, Nat.reduceAdd, Nat.reduceMul, Nat.reduceEqDiff, Nat.reduceLeDiff, List.range_zero, List.drop_zero, List.nil_append, reduceIte]
            obtain ⟨X, hX, HX, hbX, hlX⟩ := H.pushS h0 (by omega) (z := List.replicate W 0#64) (by simp)
            rw [← hX]
            replace hbX := hbX h rfl hb
            have hlX5 : h.length + 5 ≤ X.length := by omega
            clear hX
            have hlj : ors.length = j := H.len
            have hxo : (ors ++ [hh.length])[j]? = some hh.length := by rw [List.getElem?_append_right (by omega)]; simp [hlj]
            have hrj : (rows ++ [List.replicate W 0#64]).getD j [] = List.replicate W 0#64 := by simp [List.getD, H.rlen]
            have hdx : hh.length < X.length := lt_of (HX.hw j _ hxo)
            have hks : j < (spk p.params k j).length := by rw [spk_len]; exact hlt
            have hsj := spk_none (params := p.params) hlt
            have hxl : j < (ors ++ [hh.length]).length := by simp [hlj]
            have hxg : (ors ++ [hh.length]).getD j 0 = hh.length := by simp [List.getD, hlj]
            have hxr : X[hh.length + 2]? = some (some (regsObj W (ors ++ [hh.length]))) := by
              rcases HX.ra with ⟨e0, -⟩ | ⟨-, -, h1⟩
              · omega
              · exact h1
            have hxl2 : j < ors.length + 1 := by omega
            have bj : ABound (j : Int) ((j + 1 : Nat) : Int) := bnd (by omega)
            simp only [HX.hp, go_sem, Nat.reduceAdd, Nat.reduceMul, Nat.reduceEqDiff, Nat.reduceLeDiff, List.range_zero, List.drop_zero, List.nil_append, reduceIte]
            refine AIf_intro (fun hp => ?_) (fun hp => ?_)
            · have hp' : (j : Int) < p.params := by simpa using hp
              simp only [hp, go_sem, Nat.reduceAdd, Nat.reduceMul, Nat.reduceEqDiff, Nat.reduceLeDiff, List.range_zero, List.drop_zero, List.nil_append, reduceIte]
              refine aw_drawn st17_15 mixed (by kernel_rfl) ?_
              simp only [HX.hv, hxr, bj, hxl, hxl2, hxg, toNatC, go_sem, Nat.reduceAdd, Nat.reduceMul, Nat.reduceEqDiff, Nat.reduceLeDiff, List.range_zero, List.drop_zero, List.nil_append, reduceIte]
              have ezl : (List.replicate W 0#64).length = W := by simp
              have e1 := HX.hw j _ hxo
              rw [hrj] at e1
              refine run64 hh.length (h.length + 4) W _ _ (List.replicate W 0#64) out ezl hwl (by omega) X e1 HX.ho _ ?_
              have H2 := HX.setRow hxo (row := rowJoin (List.replicate W 0#64) out) (by rw [rowJoin_length (by omega), ezl])
              have hb2 := hbX.set (o := hh.length) (x := some (rowObj (rowJoin (List.replicate W 0#64) out))) (by omega)
              have hl2 : h.length + 5 ≤ (X.set hh.length (some (rowObj (rowJoin (List.replicate W 0#64) out)))).length := by rw [List.length_set]; exact hlX5
              generalize X.set hh.length (some (rowObj (rowJoin (List.replicate W 0#64) out))) = X2 at H2 hb2 hl2
              simp only [H2.hv, H2.hs, bnd hlt, hks, toNatC, hsj, inc64 hlt (by omega : k < 9223372036854775808), go_sem, Nat.reduceAdd, Nat.reduceMul, Nat.reduceEqDiff, Nat.reduceLeDiff, List.range_zero, List.drop_zero, List.nil_append, reduceIte]
              have H3 := H2.setSpot (sp' := spk p.params k (j + 1)) spk_len
              rw [show ({ thing := Spot.none.thing, off := Spot.none.off, sets := 1, is := Spot.none.is } : Spot) = ⟨0, 0, 1, false⟩ from rfl, spk_set hlt hp']
              have erow : (rows ++ [List.replicate W 0#64]).set j (rowJoin (List.replicate W 0#64) out) = rows ++ [rowJoin (List.replicate W 0#64) out] := by
                rw [List.set_append_right _ _ (by rw [H.rlen]; omega), H.rlen]; simp
              rw [erow] at H3
              refine hnx2 _ _ hlt ⟨_, _, _, _, H3, hb2.set (by omega), by rw [List.length_set]; exact hl2, has_push H.rlen hrows fun t => ?_, rfl⟩
              rw [has_join (by omega), has_zero, hp]; rfl
            · have hp' : ¬ (j : Int) < p.params := by simpa using hp
              simp only [hp, inc64 hlt (by omega : k < 9223372036854775808), go_sem, Nat.reduceAdd, Nat.reduceMul, Nat.reduceEqDiff, Nat.reduceLeDiff, List.range_zero, List.drop_zero, List.nil_append, reduceIte]
              rw [spk_skip hp'] at HX
              refine hnx2 _ _ hlt ⟨_, _, _, _, HX, hbX, hlX5, has_push H.rlen hrows fun t => ?_, rfl⟩
              rw [has_zero, hp]; rfl
        · simp only [decide_eq_false_iff_not] at hge
          have hjk : j = k := by omega
          subst hjk
          have hge' : decide (j < j) = false := by simp
          have hnn := H.ge
          have hng := H.geo
          obtain ⟨c, hc⟩ : ∃ c : VC, c = ⟨p, T, j, W, h.length + 3, orr, h.length + 4, h.length + 2, ors, none, some j, ra⟩ := ⟨_, rfl⟩
          have HV : VH c hh ⟨rows, out⟩ (spk p.params j j) := hc ▸ H.done
          have ok : VOk m c := by subst hc; exact ⟨by simpa using hk.symm, hT, hW, by show T < 1099511627776; omega⟩
          have hra0 : c.n = 0 → c.ra = .val (.slice none 0 0) := by
            subst hc
            intro e
            rcases H.ra with ⟨-, e2⟩ | ⟨e2, -⟩
            · exact e2
            · exact (e2 e).elim
          have hcp : c.p = p := by rw [hc]
          have hcv : c.v = h.length + 3 := by rw [hc]
          have hcn : c.n = j := by rw [hc]
          have hcW : c.W = W := by rw [hc]
          have hcoo : c.oo = h.length + 4 := by rw [hc]
          have hcos : c.os = h.length + 2 := by rw [hc]
          have hcors : c.ors = ors := by rw [hc]
          have hcorr : c.orr = orr := by rw [hc]
          have hcT : c.T = T := by rw [hc]
          have pbc : ProcB c.p m := hcp ▸ pb
          have plc : c.p.Lens := hcp ▸ pl
          have foot : ∀ o, (o = c.oo ∨ o ∈ c.ors) ∨ o = c.os → h.length ≤ o := by
            intro o ho
            rw [hcoo, hcors, hcos] at ho
            rcases ho with (ho | ho) | ho
            · omega
            · exact hnn.2.2.2 o ho
            · omega
          have keepB : ∀ h1 h2, HB h h1 → RU c h1 h2 → HB h h2 := fun h1 h2 b r => ⟨by rw [r.len]; exact b.1, fun o ho => by
            rcases r.obj o with e | ⟨e, -⟩ | ⟨e, -⟩
            · rw [e]; exact b.2 o ho
            · have := foot o (.inl e); omega
            · have := foot o (.inr e); omega⟩
          have below0 : ∀ s, Closed m p s → (VSt.sets ⟨rows, out⟩).Sub s := by
            intro s hs
            have hO : ∀ t, has out t = true → s.O t := fun t ht => by
              rw [hws] at ht
              simp only [decide_eq_true_eq] at ht
              exact hs.init t ht.1 (by rw [← hT]; omega)
            refine ⟨fun r t ht => ?_, hO⟩
            simp only [VSt.sets] at ht
            by_cases hr : r < j
            · rw [hrows r t hr] at ht
              simp only [Bool.and_eq_true, decide_eq_true_eq] at ht
              have h2 := ht.2
              rw [hws] at h2
              simp only [decide_eq_true_eq] at h2
              exact hs.par r t ht.1 h2.1 (by rw [← hT]; omega)
            · rw [show rows.getD r [] = [] by simp [List.getD, List.getElem?_eq_none (show rows.length ≤ r by rw [H.rlen]; omega)]] at ht
              simp [has] at ht
          rw [← hcv]
          simp only [hge', go_sem, Nat.reduceAdd, Nat.reduceMul, Nat.reduceEqDiff, Nat.reduceLeDiff, List.range_zero, List.drop_zero, List.nil_append, reduceIte]
          refine run65 m c ok pbc plc 66 (E1 m c.p c.n c.W) (⟨rows, out⟩, spk p.params j j) hh HV ?_ ?_ _ ?_
          · intro l b i hbm him hsp s g0 h2 hst H2 K2 hK2
            have hib := pbc.ins b hbm i him
            have hs1 := (steps1 hst HV.wf).2
            have hdr := dreg_of hib
            have hokn := ok.n
            refine run66 c s.1 s.2 i ((plc.each b hbm).each i him) (by omega) (fun x hx => ?_) h2 H2 (fun e => by have := hib.glob e; omega) (by rw [hcp]; omega) K2 fun h' H' r' => hK2 h' (s.1, spStep c.p s.2 i) false H' r' ⟨rfl, rfl, rfl⟩
            rw [hs1] at hx
            have hb0 := spEv_bound l (spk p.params j j) 1 (by omega) (fun x hx => by
              obtain ⟨q, hq, rfl⟩ := List.mem_map.1 hx
              split
              · rw [spotP]; split <;> simp [Spot.none]
              · simp [Spot.none]) x hx
            have hl1 := evs_len c.p.blocks
            have hl2 := pbc.all
            have hl3 := pbc.blocks
            obtain ⟨rest, hrest⟩ := hsp
            rw [hrest, List.length_append] at hl1
            omega
          · intro b r hbm hk3 hbr hrn s hw
            refine ⟨Good.let_ hw hrn fun s hs t ht => ?_, rfl⟩
            have := hs.ends b hbm hk3 (by omega) t
            rw [hbr] at this
            exact this ht
          · intro h2 s2 g2 H2 r2 st2
            obtain ⟨⟨g', hG2⟩, hsp2⟩ := steps1 st2 HV.wf
            have hb2 := keepB _ _ hb r2
            simp only [go_sem, Nat.reduceAdd, Nat.reduceMul, Nat.reduceEqDiff, Nat.reduceLeDiff, List.range_zero, List.drop_zero, List.nil_append, reduceIte]
            refine aLoop_gh [7] (fun (st : VSt) vs hx => VH c hx st s2.2 ∧ HB h hx ∧ (∃ g, Good m c.p c.n c.W ⟨rows, out⟩ st g) ∧ vs = [.ptr c.v 10 0 0 []]) (fun st => 64 * c.W * (c.n + 1) - st.tot) ?_ ?_
            · simp only [go_sem, Nat.reduceAdd, Nat.reduceMul, Nat.reduceEqDiff, Nat.reduceLeDiff, List.range_zero, List.drop_zero, List.nil_append, reduceIte]
              exact ⟨s2.1, H2, hb2, g', hG2⟩
            · rintro st vs hx - ⟨Hx, hbx, ⟨gx, hGx⟩, rfl⟩ I3 μ3 m3 hnx3
              simp only [go_sem, Nat.reduceAdd, Nat.reduceMul, Nat.reduceEqDiff, Nat.reduceLeDiff, List.range_zero, List.drop_zero, List.nil_append, reduceIte]
              refine run65 m c ok pbc plc 67 (E2 m c.p c.n c.W) (st, s2.2) hx Hx ?_ ?_ _ ?_
              · intro l b i hbm him hsp s g0 h3 hst H3 K3 hK3
                have hib := pbc.ins b hbm i him
                refine run67 m c ok s.1 s.2 i ((plc.each b hbm).each i him) hib b hbm him h3 H3 K3 fun h' st' g H' r' hg hcl => hK3 h' (st', s.2) g H' r' ⟨hg, hcl, rfl⟩
              · intro b r hbm hk3 hbr hrn s hw
                refine ⟨Good.let_ hw hrn fun s hs t ht => ?_, fun hf t ht => ?_, rfl⟩
                · have := hs.ends b hbm hk3 (by omega) t
                  rw [hbr] at this
                  exact this ht
                · rw [hbr] at ht
                  exact let_fix hw hrn (ofDN hf) t (by simpa using ht)
              · intro h3 s3 g3 H3 r3 st3
                obtain ⟨hG3, hsp3, hcl3⟩ := steps2 st3 Hx.wf
                have hb3 := keepB _ _ hbx r3
                rw [hsp3] at H3
                simp only [go_sem, Nat.reduceAdd, Nat.reduceMul, Nat.reduceEqDiff, Nat.reduceLeDiff, List.range_zero, List.drop_zero, List.nil_append, reduceIte]
                refine AIf_intro (fun hgt => ?_) (fun hgf => ?_) <;> simp only [go_sem, Nat.reduceAdd, Nat.reduceMul, Nat.reduceEqDiff, Nat.reduceLeDiff, List.range_zero, List.drop_zero, List.nil_append, reduceIte]
                · refine hnx3 s3.1 _ _ ?_ ⟨H3, hb3, ⟨_, hGx.trans hG3 rfl⟩, rfl⟩
                  have h1 : st.tot < s3.1.tot := hG3.lt hgt
                  have h2 := tot_le H3.wf
                  generalize 64 * c.W * (c.n + 1) = Z at h2 ⊢
                  omega
                · have hst := hG3.eq hgf
                  have hev := hcl3 hgf
                  rw [hst] at H3
                  have hclosed : Closed m p st.sets := by
                    rw [hcp] at hev
                    refine ⟨fun t h1 h2 => ?_, fun r t h1 h2 h3 => ?_, fun b hb i hi => ?_, fun b hb hk hba => ?_⟩
                    · refine hGx.mono.O t ?_
                      show has out t = true
                      rw [hws]; simp only [decide_eq_true_eq]; omega
                    · refine hGx.mono.R r t ?_
                      show has (rows.getD r []) t = true
                      rw [hrows r t (by have := pb.params; omega), hws]
                      simp only [Bool.and_eq_true, decide_eq_true_eq]; omega
                    · exact hev (.ins i) (mem_evs.2 ⟨b, hb, by simp [blkEv, hi]⟩)
                    · exact hev (.ret b.a) (mem_evs.2 ⟨b, hb, by simp [blkEv, retEv, hk, hba]⟩)
                  have hleast : ∀ s, Closed m p s → st.sets.Sub s := fun s hs => hGx.sub s (by rw [hcp]; exact hs) (below0 s hs)
                  have hW' := H3.wf
                  rw [hcn, hcW] at hW'
                  have hdone : VDone m p p.regs.toNat ⟨p, T, st, s2.2⟩ := by
                    have e : p.regs.toNat = j := by omega
                    rw [e]
                    refine ⟨rfl, hT, by rw [← hT, ← hW]; exact hW', fun r t => ?_, fun t => hclosed.isO hleast t, by rw [hsp2, hcp]⟩
                    show has (st.regs.getD r []) t = true ↔ _
                    rw [← hclosed.isR hleast r t]
                    refine ⟨fun h1 => ⟨?_, h1⟩, fun h1 => h1.2⟩
                    refine Nat.lt_of_not_le fun hle => ?_
                    rw [show st.regs.getD r [] = [] by simp [List.getD, List.getElem?_eq_none (show st.regs.length ≤ r by rw [hW'.regs]; omega)]] at h1
                    simp [has] at h1
                  obtain ⟨gg, hgg⟩ := hb3.ext
                  have hfz := H3.frz h.length hra0 (by omega) (by omega) (by omega) (fun hn => by rw [hcorr]; exact hng (by omega)) (fun o ho => foot o (.inl (.inr ho)))
                  rw [hcp, hcT] at hfz
                  have hK' := hK _ hdone
                  subst hgg
                  refine ⟨.tup [.iptr (AView.enc ⟨p, T, st, s2.2⟩), I 0], h, Wk.free (.tup _ [.iptr (AView.enc ⟨p, T, st, s2.2⟩), I 0] rfl fun i x y hx hy => ?_) .refl, hK'⟩
                  match i with
                  | 0 => simp at hx hy; subst hx; subst hy; exact ⟨by simp, hfz⟩
                  | 1 => simp at hx hy; subst hx; subst hy; exact ⟨by simp, .v⟩
                  | i + 2 => simp at hx
end Go.Am
