/- A part of the proof that AliasThings and AliasMeets return true for every module: texts on an abstract reading of the code (AmDraw5). -/
import Derived.Test.YtdmaniffgdpfeaaXAmDraw4
set_option linter.unusedVariables false
set_option linter.unusedSimpArgs false
set_option linter.unusedSectionVars false
set_option linter.unusedVariables false
namespace Go.Am
open Go
section
variable {P : Program} {ops : Array Oper} {steps : List Stp} {K : KO} {tm0 : List AV} {M0 : MM} {w0 : World} {n L : Nat}

theorem getD_ft {listed : Array Bool} {i : Nat} (hi : i < listed.size) (d e : Bool) : listed.getD i d = listed.getD i e := by simp [Array.getD, hi]
theorem dstI_of {i : Nat} {o : Oper} (h : ops[i]? = some o) : dstI ops i = o.dst := by simp [dstI, h]
theorem lt_of_get {i : Nat} {o : Oper} (h : ops[i]? = some o) : i < ops.size := (Array.getElem?_eq_some_iff.1 h).1

theorem down_set {pr : List (List Nat)} {listed : Array Bool} {i : Nat} (hd : Down pr listed) (hi : i < listed.size) (hp : ∀ j ∈ pr.getD i [], listed.getD j false = true) : Down pr (listed.setIfInBounds i true) := by
  intro k hk j hj
  rw [getD_set hi] at hk ⊢
  split
  · rfl
  · by_cases e : k = i
    · subst e; exact hp j hj
    · rw [if_neg e] at hk; exact hd k hk j hj

theorem draw_go (hchk : chkGo ops (pres ops.toList) [] steps = true) (hall : ∀ i, i < ops.size → ∃ s ∈ steps, idx s = i) (hnd : (steps.map idx).Nodup) {Q : Exit → Act → World → Prop}
    (hQ : ∀ tm' h' M' act' w', K tm' h' → Rl M0 w0 n L tm' h' M' act' w' → Q .normal act' w') :
    ∀ (fuel : Nat) (listed : Array Bool) (act : Act) (w : World) tr rest pend h M, (List.range ops.size).countP (fun i => !listed.getD i true) ≤ fuel →
      J P ops steps K tm0 M0 w0 n L listed act w tr rest pend h M → wpAny P .any ops Q fuel listed act w := by
  have uniq : ∀ a s b t, steps = a ++ s :: b → t ∈ a ++ b → idx t ≠ idx s := by
    intro a s b t e ht he
    rw [e] at hnd
    rw [List.map_append, List.map_cons, List.nodup_append] at hnd
    obtain ⟨h1, h2, h3⟩ := hnd
    rcases List.mem_append.1 ht with ht | ht
    · exact h3 _ (List.mem_map.2 ⟨t, ht, rfl⟩) _ List.mem_cons_self he
    · exact (List.nodup_cons.1 h2).1 (List.mem_map.2 ⟨t, ht, he⟩)
  -- nothing is ready: the end
  have fin : ∀ (listed : Array Bool) (act : Act) (w : World) tr rest pend h M, J P ops steps K tm0 M0 w0 n L listed act w tr rest pend h M → Region.ready .any ops listed = [] → Q .normal act w := by
    intro listed act w tr rest pend h M j hr
    have all : ∀ s ∈ steps, listed.getD (idx s) false = true := by
      have key : ∀ (b a : List Stp), steps = a ++ b → (∀ s ∈ a, listed.getD (idx s) false = true) → ∀ s ∈ b, listed.getD (idx s) false = true := by
        intro b
        induction b with
        | nil => intro a _ _ s hs; cases hs
        | cons t b ih =>
          intro a e ha
          have ht : listed.getD (idx t) false = true := by
            obtain ⟨o, so⟩ := stepOk_at (e ▸ hchk)
            have hlt := lt_of_get so.get
            by_cases hl : listed.getD (idx t) false = true
            · exact hl
            · have : idx t ∈ Region.ready .any ops listed := by
                unfold Region.ready
                rw [List.mem_filter]
                refine ⟨List.mem_range.2 hlt, ?_⟩
                rw [so.get, getD_ft (by rw [j.size]; exact hlt) true false]
                simp only [Option.map_some, Option.getD_some, Bool.and_eq_true, Bool.not_eq_true']
                refine ⟨by simpa using hl, ?_⟩
                rw [Array.all_eq_true']
                intro ed hed
                cases hb : Region.binds .any ed with
                | false => simp
                | true =>
                  have hp := pres_on (ops := ops.toList) (i := idx t) (by rw [Array.getElem?_toList]; exact so.get) hed hb
                  obtain ⟨d, hd, hd'⟩ := so.pre _ hp
                  simp [← hd', ha d hd]
              rw [hr] at this
              cases this
          intro s hs
          rcases List.mem_cons.1 hs with rfl | hs
          · exact ht
          · exact ih (a ++ [t]) (by simp [e]) (fun s hs => by
              rcases List.mem_append.1 hs with hs | hs
              · exact ha s hs
              · simp at hs; subst hs; exact ht) s hs
      exact key steps [] rfl (fun s hs => by cases hs)
    have hrest : rest = [] := by
      cases hrr : rest with
      | nil => rfl
      | cons s r =>
        exfalso
        have e := j.split
        rw [hrr] at e
        obtain ⟨x, hx, hxi⟩ := j.inTr _ (all s (by rw [e]; simp))
        exact uniq _ s r x.1 e (List.mem_append_left _ (List.mem_map.2 ⟨x, hx, rfl⟩)) hxi
    have hk := j.adr
    rw [hrest] at hk
    have hrl := j.rl
    rw [runD_all tr tm0 (fun x hx => all x.1 (by rw [j.split]; exact List.mem_append_left _ (List.mem_map.2 ⟨x, hx, rfl⟩)))] at hrl
    unfold adr at hk
    exact hQ _ _ _ _ _ hk hrl
  intro fuel
  induction fuel with
  | zero =>
    intro listed act w tr rest pend h M hc j
    have hr : Region.ready .any ops listed = [] := by
      have h0 : (List.range ops.size).countP (fun i => !listed.getD i true) = 0 := by omega
      rw [List.countP_eq_zero] at h0
      unfold Region.ready
      rw [List.filter_eq_nil_iff]
      intro i hi
      have := h0 i hi
      simp at this
      simp [this]
    exact ⟨hr, fin _ _ _ _ _ _ _ _ j hr⟩
  | succ fuel ih =>
    intro listed act w tr rest pend h M hc j
    refine ⟨fin _ _ _ _ _ _ _ _ j, fun i hi => ?_⟩
    obtain ⟨hlt, hnl, hpre⟩ := ready_pres j.down hi
    have hls : i < listed.size := by rw [j.size]; exact hlt
    have hnl' : listed.getD i false = false := by rw [getD_ft hls false true]; exact hnl
    have hc' : (List.range ops.size).countP (fun k => !(listed.setIfInBounds i true).getD k true) ≤ fuel := by
      have := countP_dec (p := fun k => !listed.getD k true) (p' := fun k => !(listed.setIfInBounds i true).getD k true) (i := i) (by simp [hnl]) (by simp [getD_set hls]) (fun k hk => by simp [getD_set hls, hk]) (List.range ops.size) (List.mem_range.2 hlt)
      omega
    have hdown := down_set j.down hls hpre
    have hcong : ∀ l : List Ent, (∀ x ∈ l, idx x.1 ≠ i) → ∀ tm, runD ops ((listed.setIfInBounds i true).getD · false) tm l = runD ops (listed.getD · false) tm l := by
      intro l hl tm
      refine runD_congr l tm fun x hx => ?_
      rw [getD_set hls, if_neg (hl x hx)]
    obtain ⟨s, hs, hsi⟩ := hall i hlt
    rw [j.split] at hs
    rcases List.mem_append.1 hs with hs | hs
    · -- a step already taken in the list's order
      obtain ⟨x, hx, rfl⟩ := List.mem_map.1 hs
      obtain ⟨a, b, rfl⟩ := List.append_of_mem hx
      have hsp : steps = a.map (·.1) ++ x.1 :: (b.map (·.1) ++ rest) := by rw [j.split]; simp
      obtain ⟨o, so⟩ := stepOk_at (hsp ▸ hchk)
      have hex := j.ex x hx (by rw [hsi]; exact hnl')
      have htr := j.trOk a x b rfl
      have ha : ∀ y ∈ a, idx y.1 ≠ i := fun y hy e => uniq _ _ _ y.1 hsp (List.mem_append_left _ (List.mem_map.2 ⟨y, hy, rfl⟩)) (e.trans hsi.symm)
      have hb : ∀ y ∈ b, idx y.1 ≠ i := fun y hy e => uniq _ _ _ y.1 hsp (List.mem_append_right _ (List.mem_append_left _ (List.mem_map.2 ⟨y, hy, rfl⟩))) (e.trans hsi.symm)
      -- those listed behind it
      have hbz : ∀ z ∈ b, listed.getD (idx z.1) false = true → ∃ oz, ops[idx z.1]? = some oz ∧ Oper.apart ops o oz = true := by
        intro z hz hzl
        obtain ⟨b1, b2, rfl⟩ := List.append_of_mem hz
        have hsp2 : steps = (a.map (·.1) ++ x.1 :: b1.map (·.1)) ++ z.1 :: (b2.map (·.1) ++ rest) := by rw [hsp]; simp
        obtain ⟨oz, sz⟩ := stepOk_at (hsp2 ▸ hchk)
        have hnp : idx x.1 ∉ (pres ops.toList).getD (idx z.1) [] := fun hm => by
          have := j.down _ hzl _ hm
          rw [hsi, hnl'] at this
          cases this
        obtain ⟨ox, h1, h2⟩ := sz.apart x.1 (by simp) hnp
        rw [so.get] at h1; cases h1
        exact ⟨oz, sz.get, h2⟩
      have like : Like ops o x.2.1 (runD ops (listed.getD · false) tm0 (a ++ x :: b)) := by
        refine ⟨fun d hd e => ?_⟩
        rw [runD_append, runD_skip, htr]
        · symm
          refine run_agree a tm0 tm0 (fun y hy hyl hyd => ?_) rfl rfl
          have hnp : idx y.1 ∉ (pres ops.toList).getD (idx x.1) [] := fun hm => by
            rw [hsi] at hm
            rw [hpre _ hm] at hyl
            cases hyl
          obtain ⟨oy, h1, h2⟩ := so.apart y.1 (List.mem_map.2 ⟨y, hy, rfl⟩) hnp
          rw [dstI_of h1] at hyd
          exact (Oper.apart_spec h2).1 d hyd hd
        · intro z hz hzl hzd
          rcases List.mem_cons.1 hz with rfl | hz
          · rw [hsi, hnl'] at hzl; cases hzl
          · obtain ⟨oz, h1, h2⟩ := hbz z hz hzl
            rw [dstI_of h1] at hzd
            exact (Oper.apart_spec h2).2.2 d hzd hd
      have hput : ∀ v, v = x.2.2 → runD ops ((listed.setIfInBounds i true).getD · false) tm0 (a ++ x :: b) = put (runD ops (listed.getD · false) tm0 (a ++ x :: b)) o.dst v := by
        rintro v rfl
        rw [runD_append, runD_append, hcong a ha, runD, runD]
        rw [hsi, getD_set hls, if_pos rfl, hnl', if_pos rfl, if_neg (by simp), hcong b hb]
        have hdx : dstI ops i = o.dst := by rw [← hsi]; exact dstI_of so.get
        rw [hdx]
        refine runD_put b _ fun z hz hzl d hd hzd => ?_
        obtain ⟨oz, h1, h2⟩ := hbz z hz hzl
        rw [dstI_of h1] at hzd
        exact (Oper.apart_spec h2).2.1 d hd hzd
      have next : ∀ v M' act' w', v = x.2.2 → Rl M0 w0 n L (put (runD ops (listed.getD · false) tm0 (a ++ x :: b)) o.dst v) h M' act' w' → wpAny P .any ops Q fuel (listed.setIfInBounds i true) act' w' := by
        intro v M' act' w' hv hrl
        refine ih _ act' w' (a ++ x :: b) rest pend h M' hc' ⟨j.split, j.head, by simpa using j.size, fun k hk => ?_, fun y hy hy' => ?_, j.trOk, j.cov, fun y hy hy' => ?_, j.adr, by rw [hput v hv]; exact hrl, hdown⟩
        · rw [getD_set hls] at hk
          by_cases e : k = i
          · exact ⟨x, hx, by rw [hsi, e]⟩
          · rw [if_neg e] at hk; exact j.inTr k hk
        · rw [getD_set hls]
          split
          · rfl
          · exact j.chain y hy hy'
        · rw [getD_set hls] at hy'
          split at hy'
          · cases hy'
          · exact j.ex y hy hy'
      obtain ⟨hq, o', ho', hcase⟩ := hex
      rw [so.get] at ho'; cases ho'
      unfold wpOp
      rw [← hsi, so.get]
      simp only
      rw [hsi]
      rcases hcase with ⟨h1, h2⟩ | ⟨h1, h2, h3⟩
      · rw [if_neg (by rw [wanted_skip j.rl (like.skip h1)]; simp)]
        obtain ⟨v, h', M', ⟨rfl, rfl⟩, k2⟩ := j.rl.step (K := fun v h' => v = .tup [] ∧ h' = h) (cv := undef) (w' := w) (.pure ⟨rfl, rfl⟩ j.rl.inv vrel_undef) o.dst
        exact next _ M' _ _ h2.symm k2
      · rw [if_pos (wanted_take j.rl (like.take h1))]
        refine .inl (aop_sound (like.aop h3) j.rl.inv j.rl.tmps fun cv w' hp => ?_)
        obtain ⟨v, h', M', ⟨rfl, rfl⟩, k2⟩ := j.rl.step hp o.dst
        exact next _ M' _ _ rfl k2
    · -- the next of the chain
      cases hrr : rest with
      | nil => rw [hrr] at hs; cases hs
      | cons s0 r =>
        have hsp : steps = tr.map (·.1) ++ s0 :: r := by rw [j.split, hrr]
        have hc0 := j.head s0 r hrr
        have hs0 : listed.getD (idx s0) false = false := by
          cases hl : listed.getD (idx s0) false with
          | false => rfl
          | true =>
            obtain ⟨x, hx, hxi⟩ := j.inTr _ hl
            exact absurd hxi (uniq _ s0 r x.1 hsp (List.mem_append_left _ (List.mem_map.2 ⟨x, hx, rfl⟩)))
        have hss : s = s0 := by
          rw [hrr] at hs
          rcases List.mem_cons.1 hs with h1 | h1
          · exact h1
          · exfalso
            obtain ⟨r1, r2, rfl⟩ := List.append_of_mem h1
            have hsp2 : steps = (tr.map (·.1) ++ s0 :: r1) ++ s :: r2 := by rw [hsp]; simp
            obtain ⟨o, so⟩ := stepOk_at (hsp2 ▸ hchk)
            have := so.chain s0 (by simp) hc0
            rw [hsi] at this
            rw [hpre _ this] at hs0
            cases hs0
        subst hss
        obtain ⟨o, so⟩ := stepOk_at (hsp ▸ hchk)
        have htri : ∀ y ∈ tr, idx y.1 ≠ i := fun y hy e => uniq _ _ _ y.1 hsp (List.mem_append_left _ (List.mem_map.2 ⟨y, hy, rfl⟩)) (e.trans hsi.symm)
        have like : Like ops o (runT ops tm0 tr) (runD ops (listed.getD · false) tm0 tr) := by
          refine ⟨fun d hd e => ?_⟩
          symm
          refine run_agree tr tm0 tm0 (fun y hy hyl hyd => ?_) rfl rfl
          have hnp : idx y.1 ∉ (pres ops.toList).getD (idx s) [] := fun hm => by
            rw [hsi] at hm
            rw [hpre _ hm] at hyl
            cases hyl
          obtain ⟨oy, h1, h2⟩ := so.apart y.1 (List.mem_map.2 ⟨y, hy, rfl⟩) hnp
          rw [dstI_of h1] at hyd
          exact (Oper.apart_spec h2).1 d hyd hd
        have hdx : dstI ops (idx s) = o.dst := dstI_of so.get
        have hchk' : chkGo ops (pres ops.toList) (tr.map (·.1) ++ [s]) r = true := by
          have := chkGo_at (tr.map (·.1) ++ [s]) [] (b := r) (by rw [List.append_assoc]; rw [hsp] at hchk; exact hchk)
          rwa [List.nil_append] at this
        have next : ∀ v h' M' act' w', (∀ x ∈ tr, listed.getD (idx x.1) false = false → Ex P ops h' x) → adr P ops.toList r (put (runT ops tm0 tr) o.dst v) h' pend K →
            Rl M0 w0 n L (put (runD ops (listed.getD · false) tm0 tr) o.dst v) h' M' act' w' → wpAny P .any ops Q fuel (listed.setIfInBounds i true) act' w' := by
          intro v h' M' act' w' hex hk hrl
          have hrun : runT ops tm0 (tr ++ [(s, runT ops tm0 tr, v)]) = put (runT ops tm0 tr) o.dst v := by
            rw [runT_append, runT, runT, hdx]
          rw [← hrun] at hk
          have hcov : ∀ x ∈ tr ++ [(s, runT ops tm0 tr, v)], Cov ops pend x := by
            intro x hx
            rcases List.mem_append.1 hx with hx | hx
            · exact j.cov x hx
            · simp at hx; subst hx
              intro hf
              simp only at hf
              rw [hc0] at hf; cases hf
          obtain ⟨tr', rest', pend', e1, e2, e3, e4, e5, e6⟩ := adr_advance r (tr.map (·.1) ++ [s]) tm0 (tr ++ [(s, runT ops tm0 tr, v)]) h' pend hchk' (j.trOk.snoc rfl) hcov hk
          have hsp3 : steps = (tr ++ [(s, runT ops tm0 tr, v)] ++ tr').map (·.1) ++ rest' := by rw [hsp, e1]; simp
          have hi' : ∀ y ∈ tr', idx y.1 ≠ i := fun y hy e => uniq _ s r y.1 hsp (List.mem_append_right _ (by rw [e1]; exact List.mem_append_left _ (List.mem_map.2 ⟨y, hy, rfl⟩))) (e.trans hsi.symm)
          have hun : ∀ y ∈ tr', listed.getD (idx y.1) false = false := by
            intro y hy
            cases hl : listed.getD (idx y.1) false with
            | false => rfl
            | true =>
              exfalso
              obtain ⟨x, hx, hxi⟩ := j.inTr _ hl
              obtain ⟨t1, t2, rfl⟩ := List.append_of_mem hy
              have : steps = (tr.map (·.1) ++ s :: t1.map (·.1)) ++ y.1 :: (t2.map (·.1) ++ rest') := by rw [hsp, e1]; simp
              exact uniq _ _ _ x.1 this (List.mem_append_left _ (List.mem_append_left _ (List.mem_map.2 ⟨x, hx, rfl⟩))) hxi
          have hl' : ∀ k, (listed.setIfInBounds i true).getD k false = if k = i then true else listed.getD k false := fun k => getD_set hls
          refine ih _ act' w' (tr ++ [(s, runT ops tm0 tr, v)] ++ tr') rest' pend' h' M' hc' ⟨hsp3, e2, by simpa using j.size, fun k hk => ?_, fun y hy hy' => ?_, e3, e4, fun y hy hy' => ?_, e6, ?_, hdown⟩
          · rw [hl'] at hk
            by_cases e : k = i
            · exact ⟨(s, runT ops tm0 tr, v), by simp, by simp [hsi, e]⟩
            · rw [if_neg e] at hk
              obtain ⟨x, hx, hxi⟩ := j.inTr k hk
              exact ⟨x, by simp [hx], hxi⟩
          · rw [hl']
            split
            · rfl
            · rename_i e
              rcases List.mem_append.1 hy with hy | hy
              · rcases List.mem_append.1 hy with hy | hy
                · exact j.chain y hy hy'
                · simp at hy; subst hy; exact absurd hsi e
              · obtain ⟨hq, -⟩ := e5 y hy
                rw [hq] at hy'; cases hy'
          · rw [hl'] at hy'
            split at hy'
            · cases hy'
            · rename_i e
              rcases List.mem_append.1 hy with hy | hy
              · rcases List.mem_append.1 hy with hy | hy
                · exact hex y hy hy'
                · simp at hy; subst hy; exact absurd hsi e
              · exact e5 y hy
          · rw [runD_append, runD_append, hcong tr htri, runD_none tr']
            · rw [runD, runD]
              simp only
              rw [hl', if_pos hsi, if_pos rfl, hdx]
              exact hrl
            · intro y hy
              rw [hl', if_neg (hi' y hy)]
              exact hun y hy
        have hk := j.adr
        rw [hrr] at hk
        unfold wpOp
        rw [← hsi, so.get]
        simp only
        rw [hsi]
        rcases adr_cons so.get hk with ⟨h1, hk⟩ | ⟨h1, hk⟩
        · rw [if_neg (by rw [wanted_skip j.rl (like.skip h1)]; simp)]
          obtain ⟨v, h', M', ⟨rfl, rfl⟩, k2⟩ := j.rl.step (K := fun v h' => v = .tup [] ∧ h' = h) (cv := undef) (w' := w) (.pure ⟨rfl, rfl⟩ j.rl.inv vrel_undef) o.dst
          exact next _ _ M' _ _ j.ex hk k2
        · cases s with
          | q k => simp [isC] at hc0
          | c k re =>
            simp only at hk
            rw [if_pos (wanted_take j.rl (like.take h1))]
            refine .inl (aop_sound (like.aop hk) j.rl.inv j.rl.tmps fun cv w' hp => ?_)
            obtain ⟨v, h', M', ⟨k1, k1'⟩, k2⟩ := j.rl.step hp o.dst
            refine next v h' M' _ _ (fun x hx hxl => ?_) k1' k2
            refine (j.ex x hx hxl).move (j.cov x hx) k1 fun ox hox hl => ?_
            refine so.re k re rfl x.1 (List.mem_map.2 ⟨x, hx, rfl⟩) ?_ ?_ ox hox hl
            · cases hcx : isC x.1 with
              | false => rfl
              | true => rw [j.chain x hx hcx] at hxl; cases hxl
            · intro hm
              have : k = i := hsi
              rw [this] at hm
              rw [hpre _ hm] at hxl
              cases hxl

theorem ADraw.intro {tm : List AV} {h : Heap} (hm : P.follows .mixedOrders = true) (hchk : chk ops steps = true) (hk : adr P ops.toList steps tm h [] K) : ADraw P ops tm h K := by
  intro M0 w0 n L M w act hr id Q hQ
  refine wp_region_any hm ?_
  unfold chk at hchk
  simp only [Bool.and_eq_true, List.all_eq_true, decide_eq_true_eq] at hchk
  obtain ⟨⟨h1, h2⟩, h3⟩ := hchk
  have hall : ∀ i, i < ops.size → ∃ s ∈ steps, idx s = i := by
    intro i hi
    have := h2 i (List.mem_range.2 hi)
    rw [List.contains_iff_mem] at this
    obtain ⟨s, h4, h5⟩ := List.mem_map.1 this
    exact ⟨s, h4, h5⟩
  obtain ⟨tr', rest', pend', e1, e2, e3, e4, e5, e6⟩ := adr_advance steps [] tm [] h [] h1 (fun a x b e => by simp at e) (fun x hx => by cases hx) hk
  have hf : ∀ k, (Array.replicate ops.size false).getD k false = false := by
    intro k
    simp only [Array.getD_eq_getD_getElem?, Array.getElem?_replicate]
    split <;> rfl
  refine draw_go h1 hall h3 hQ ops.size _ act _ tr' rest' pend' h M ?_ ⟨e1, e2, by simp, fun k hk => ?_, fun y hy hy' => ?_, by simpa using e3, by simpa using e4, fun y hy _ => e5 y hy, by simpa using e6, ?_, fun k hk => ?_⟩
  · refine Nat.le_trans (List.countP_le_length) (by simp)
  · rw [hf] at hk; cases hk
  · obtain ⟨hq, -⟩ := e5 y hy
    rw [hq] at hy'; cases hy'
  · rw [runD_none _ _ (fun x hx => hf _)]
    exact hr.drawn
  · rw [hf] at hk; cases hk
end
end Go.Am
