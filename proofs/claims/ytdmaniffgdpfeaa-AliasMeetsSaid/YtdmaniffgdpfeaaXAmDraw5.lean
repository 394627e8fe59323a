/- A part of the proof that AliasThings and AliasMeets return true for every module: texts on an abstract reading of the code (AmDraw4, AmDraw5). -/
import Derived.Test.YtdmaniffgdpfeaaXAmDraw3
set_option linter.unusedVariables false
set_option linter.unusedSimpArgs false
set_option linter.unusedSectionVars false
set_option linter.unusedVariables false
namespace Go.Am
open Go
section
variable {P : Program} {ops : Array Oper}

theorem chkGo_at {pr : List (List Nat)} (a : List Stp) : ∀ (done : List Stp) {b : List Stp}, chkGo ops pr done (a ++ b) = true → chkGo ops pr (done ++ a) b = true := by
  induction a with
  | nil => intro done b h; simpa using h
  | cons s a ih =>
    intro done b h
    have := ih (done ++ [s]) (chkGo_cons h).2
    simpa using this
theorem stepOk_at {pr : List (List Nat)} {a b : List Stp} {s : Stp} (h : chkGo ops pr [] (a ++ s :: b) = true) : ∃ o, StepOk ops pr a s o := by
  have := chkGo_at a [] h
  rw [List.nil_append] at this
  exact (chkGo_cons this).1

theorem getD_set {listed : Array Bool} {i j : Nat} {d : Bool} (hi : i < listed.size) : (listed.setIfInBounds i true).getD j d = if j = i then true else listed.getD j d := by
  simp only [Array.getD_eq_getD_getElem?, Array.getElem?_setIfInBounds]
  by_cases h : i = j
  · subst h; simp [hi]
  · have : ¬ j = i := fun e => h e.symm
    simp [h, this]
theorem countP_dec {p p' : Nat → Bool} {i : Nat} (h1 : p i = true) (h2 : p' i = false) (h3 : ∀ j, j ≠ i → p' j = p j) (l : List Nat) : i ∈ l → l.countP p' < l.countP p := by
  have le : ∀ l : List Nat, l.countP p' ≤ l.countP p := fun l => List.countP_mono_left fun x _ hx => by
    by_cases e : x = i
    · subst e; exact h1
    · rw [← h3 x e]; exact hx
  induction l with
  | nil => intro h; cases h
  | cons x l ih =>
    intro hm
    by_cases e : x = i
    · subst e
      rw [List.countP_cons_of_pos h1, List.countP_cons_of_neg (by simp [h2])]
      exact Nat.lt_succ_of_le (le l)
    · have := ih ((List.mem_cons.1 hm).resolve_left fun e' => e e'.symm)
      simp only [List.countP_cons, h3 x e]
      split <;> omega

/-- an operation and its guard see the temporaries alike -/
structure Like (ops : Array Oper) (o : Oper) (tm tm' : List AV) : Prop where
  at_ : ∀ d ∈ o.looksAt ops, ∀ e, tm.getD d e = tm'.getD d e
theorem Like.aop {o : Oper} {tm tm' : List AV} {h : Heap} {K : AV → Heap → Prop} (l : Like ops o tm tm') (hk : aop P o tm h K) : aop P o tm' h K := by
  rwa [aop_congr (tm' := tm') fun x hx => rho_get fun t ht => l.at_ t (by
    subst ht
    exact List.mem_append_left _ (List.mem_filterMap.2 ⟨.tmp t, by simpa using hx, rfl⟩)) _] at hk
theorem guardTmp_looks {o : Oper} {j d : Nat} {want : Bool} (hg : o.guard = some (j, want)) (hd : guardTmp ops.toList j = some d) : d ∈ o.looksAt ops := by
  have hd : (ops[j]?).bind (·.dst) = some d := by
    unfold guardTmp gTmp dstOf at hd
    rw [Array.getElem?_toList] at hd
    cases hq : ops[j]? with
    | none => simp [hq] at hd
    | some o => simp [hq] at hd; simp [hd]
  refine List.mem_append_right _ ?_
  rw [hg]
  simp [hd]
theorem Like.take {o : Oper} {tm tm' : List AV} (l : Like ops o tm tm') (hk : Take ops o tm) : Take ops o tm' := by
  unfold Take at *
  split
  · trivial
  · rename_i j want hg
    rw [hg] at hk
    obtain ⟨d, h1, h2⟩ := hk
    exact ⟨d, h1, by rw [← l.at_ d (guardTmp_looks hg h1)]; exact h2⟩
theorem Like.skip {o : Oper} {tm tm' : List AV} (l : Like ops o tm tm') (hk : Skip ops o tm) : Skip ops o tm' := by
  unfold Skip at *
  split
  · rename_i hg; rw [hg] at hk; exact hk
  · rename_i j want hg
    rw [hg] at hk
    obtain ⟨d, h1, h2⟩ := hk
    exact ⟨d, h1, by rw [← l.at_ d (guardTmp_looks hg h1)]; exact h2⟩

theorem wanted_take {M0 : MM} {w0 : World} {n L : Nat} {tm : List AV} {h : Heap} {M : MM} {act : Act} {w : World} {o : Oper} (hr : Rl M0 w0 n L tm h M act w) (hk : Take ops o tm) : Region.wanted o (yielded ops act.tmps) = true := by
  unfold Take at hk
  unfold Region.wanted
  split at hk
  · rename_i hg; simp [hg]
  · rename_i j want hg
    obtain ⟨d, h1, h2⟩ := hk
    have := (yielded_of h1 hr.tmps).1 want h2
    simp [hg, this]
theorem wanted_skip {M0 : MM} {w0 : World} {n L : Nat} {tm : List AV} {h : Heap} {M : MM} {act : Act} {w : World} {o : Oper} (hr : Rl M0 w0 n L tm h M act w) (hk : Skip ops o tm) : Region.wanted o (yielded ops act.tmps) = false := by
  unfold Skip at hk
  unfold Region.wanted
  split at hk
  · exact hk.elim
  · rename_i j want hg
    obtain ⟨d, h1, h2⟩ := hk
    have := yielded_of h1 hr.tmps
    rcases h2 with h2 | h2
    · have := this.1 _ h2
      simp only [hg, this]
      cases want <;> rfl
    · have := this.2 h2
      simp [hg, this]
theorem recheck_at {h : Heap} {pend : Pend} {j : Nat} {t : TypeId} {a v : AV} (hp : (j, t, a, v) ∈ pend) (re : List Nat) : j ∈ re → recheck P h pend re → chk1 P t h v a := by
  induction re with
  | nil => intro h; cases h
  | cons i js ih =>
    intro hm hr
    rcases List.mem_cons.1 hm with e | hm
    · exact hr.1 _ hp e
    · exact ih hm hr.2
theorem Ex.move {h h' : Heap} {x : Ent} {pend : Pend} {re : List Nat} (hx : Ex P ops h x) (hc : Cov ops pend x) (hr : recheck P h' pend re) (hre : ∀ o, ops[idx x.1]? = some o → (isLoad o.op || isAl o.op) = true → idx x.1 ∈ re) : Ex P ops h' x := by
  obtain ⟨hs, o, ho, h1⟩ := hx
  refine ⟨hs, o, ho, ?_⟩
  rcases h1 with h1 | ⟨h1, h2, h3⟩ | ⟨t, z, ob, k1, k2, k3, k4, k5⟩
  · exact .inl h1
  · refine .inr (.inl ⟨h1, h2, ?_⟩)
    cases hl : isLoad o.op with
    | false =>
      obtain ⟨v, ⟨rfl, -⟩, -, k⟩ := aop_quiet h2 h3
      exact k hl h'
    | true =>
      have hre := hre o ho (by rw [hl]; rfl)
      obtain ⟨dst, op, type, pos, after, guard⟩ := o
      cases op <;> simp only [isLoad] at hl <;> first | cases hl | skip
      rename_i ty a
      have hp := (hc hs).1 _ ty a ho h1 rfl
      have hk := recheck_at hp re hre hr
      have h3' : aload P ty h (only x.2.2 h) (rho x.2.1 a) := h3
      have h4 : aload P ty h' (sameV x.2.2) (rho x.2.1 a) := by
        unfold chk1 at hk
        split at hk
        · rename_i e
          rw [e] at h3'
          exact h3'.elim
        · exact hk
      obtain ⟨v, k1, k2⟩ := aload_quiet h4
      cases k1
      exact k2
  · refine .inr (.inr ⟨t, z, ob, k1, k2, k3, k4, ?_⟩)
    have hre := hre o ho (by rw [k1]; simp [isAl])
    have hp := (hc hs).2 o t ho k1
    have hk := recheck_at hp re hre hr
    rw [k4] at hk
    have hk' : keptZ h' ob t (zAV P t) := hk
    rw [k3] at hk'
    exact hk'

/-- the state between two draws -/
structure J (P : Program) (ops : Array Oper) (steps : List Stp) (K : KO) (tm0 : List AV) (M0 : MM) (w0 : World) (n L : Nat) (listed : Array Bool) (act : Act) (w : World) (tr : List Ent) (rest : List Stp) (pend : Pend) (h : Heap) (M : MM) : Prop where
  split : steps = tr.map (·.1) ++ rest
  head : ∀ s r, rest = s :: r → isC s = true
  size : listed.size = ops.size
  inTr : ∀ i, listed.getD i false = true → ∃ x ∈ tr, idx x.1 = i
  chain : ∀ x ∈ tr, isC x.1 = true → listed.getD (idx x.1) false = true
  trOk : TrOk ops tm0 tr
  cov : ∀ x ∈ tr, Cov ops pend x
  ex : ∀ x ∈ tr, listed.getD (idx x.1) false = false → Ex P ops h x
  adr : adr P ops.toList rest (runT ops tm0 tr) h pend K
  rl : Rl M0 w0 n L (runD ops (listed.getD · false) tm0 tr) h M act w
  late : ∀ x ∈ tr, listed.getD (idx x.1) false = false → alS ops x.1 = true → M (obOf x.2.2) = .absent
  ge : ∀ x ∈ tr, alS ops x.1 = true → n ≤ obOf x.2.2
  dist : ∀ x ∈ tr, ∀ y ∈ tr, alS ops x.1 = true → alS ops y.1 = true → obOf x.2.2 = obOf y.2.2 → idx x.1 = idx y.1
  down : Down (pres ops.toList) listed

theorem Rl.drawn {M0 : MM} {w0 : World} {n L : Nat} {tm : List AV} {h : Heap} {M : MM} {act : Act} {w : World} (hr : Rl M0 w0 n L tm h M act w) : Rl M0 w0 n L tm h M act { w with drawn := w.drawn + 1 } := by
  have ev : Ev M w M { w with drawn := w.drawn + 1 } := ⟨Nat.le_refl _, fun _ _ _ => rfl, fun _ _ h => .inl h, fun _ h => h, fun _ h => .inl h, fun _ c _ _ _ h => ⟨c, h, rfl⟩, rfl, rfl, rfl⟩
  refine ⟨⟨fun o obj ho => ?_, hr.inv.dead, hr.inv.out, hr.inv.inj, hr.inv.lt⟩, hr.tmps.ev ev, hr.defers, hr.ev.trans ev, hr.abs, hr.le, hr.len⟩
  rcases hr.inv.live o obj ho with h1 | ⟨b, bo, h1, h2⟩
  · exact .inl h1
  · refine .inr ⟨b, bo, h1, ?_⟩
    cases obj with
    | arr e sz xs =>
      obtain ⟨k1, cells, k2, k3⟩ := h2
      refine ⟨k1, cells, k2, fun i x hx => ?_⟩
      obtain ⟨v, k4, k5⟩ := k3 i x hx
      exact ⟨v, k4, VRel.ev ev k5⟩
    | map kvs =>
      obtain ⟨es, clock, k1, k2, k3⟩ := h2
      refine ⟨es, clock, k1, k2, fun i kv e h3 h4 => ?_⟩
      obtain ⟨k4, k5⟩ := k3 i kv e h3 h4
      exact ⟨VRel.ev ev k4, VRel.ev ev k5⟩
theorem Rl.step2 {M0 : MM} {w0 : World} {n L : Nat} {tm : List AV} {h : Heap} {M : MM} {act : Act} {w : World} (hr : Rl M0 w0 n L tm h M act w) {K : AV → Heap → Prop} {cv : Value} {w' : World} (hp : Post M w h.length K cv w') (dst : Option Tmp) :
    ∃ v h' M', K v h' ∧ Rl M0 w0 n L (put tm dst v) h' M' (act.put dst cv) w' ∧ ∀ o, o < h.length → M o = .absent → M' o = .absent := by
  obtain ⟨v, h', M', h1, h2, h3, h4, h5, h6⟩ := hp
  refine ⟨v, h', M', h1, ⟨h2, ?_, ?_, hr.ev.trans h4, fun o ho hab => h5 o (Nat.lt_of_lt_of_le ho hr.le) (hr.abs o ho hab), Nat.le_trans hr.le h6, by rw [put_length]; exact hr.len⟩, h5⟩
  · exact (hr.tmps.ev h4).put (d := act.defers) dst h3
  · have := hr.defers
    cases dst <;> exact this
theorem Rl.late {M0 : MM} {w0 : World} {n L : Nat} {tm : List AV} {h : Heap} {M M' : MM} {act : Act} {w w' : World} (hr : Rl M0 w0 n L tm h M act w) {v : AV} {cv : Value} (h2 : Inv M' h w') (h4 : Ev M w M' w') (h3 : VRel M' w' v cv) (h5 : ∀ o, o < n → M o = .absent → M' o = .absent) (dst : Option Tmp) :
    Rl M0 w0 n L (put tm dst v) h M' (act.put dst cv) w' := by
  refine ⟨h2, ?_, ?_, hr.ev.trans h4, fun o ho hab => h5 o ho (hr.abs o ho hab), hr.le, by rw [put_length]; exact hr.len⟩
  · exact (hr.tmps.ev h4).put (d := act.defers) dst h3
  · have := hr.defers
    cases dst <;> exact this
theorem ex_late {h : Heap} {y : Ent} (he : Ex P ops h y) (ha : alS ops y.1 = true) : ∃ o, ops[idx y.1]? = some o ∧ Late P h o y.2.2 := by
  obtain ⟨h1, o, ho, hc⟩ := he
  obtain ⟨-, h2⟩ := alS_of ha
  obtain ⟨t, k1, k2⟩ := alAt_spec h2 ho
  rcases hc with ⟨hs, -⟩ | ⟨-, hq, -⟩ | hl
  · unfold Skip at hs; rw [k2] at hs; exact hs.elim
  · have := quiet_al hq; rw [k1] at this; cases this
  · exact ⟨o, ho, hl⟩
theorem Late.lt {h : Heap} {o : Oper} {v : AV} (hl : Late P h o v) : obOf v < h.length := by
  obtain ⟨t, z, ob, k1, k2, k3, k4, k5⟩ := hl
  rw [k4]
  exact (List.getElem?_eq_some_iff.1 k5).1
theorem Late.alS {h : Heap} {o : Oper} {v : AV} {s : Stp} (hl : Late P h o v) (hc : isC s = false) (ho : ops[idx s]? = some o) : alS ops s = true := by
  obtain ⟨t, z, ob, k1, k2, k3, k4, k5⟩ := hl
  simp [Am.alS, alAt, ho, hc, k1, k2, isAl]
end
end Go.Am

set_option linter.unusedVariables false
namespace Go.Am
open Go
section
variable {P : Program} {ops : Array Oper} {steps : List Stp} {K : KO} {tm0 : List AV} {M0 : MM} {w0 : World} {n L : Nat}

theorem getD_ft {listed : Array Bool} {i : Nat} (hi : i < listed.size) (d e : Bool) : listed.getD i d = listed.getD i e := by simp [Array.getD, hi]
theorem dstI_of {i : Nat} {o : Oper} (h : ops[i]? = some o) : dstI ops i = o.dst := by simp [dstI, h]
theorem lt_of_get {i : Nat} {o : Oper} (h : ops[i]? = some o) : i < ops.size := (Array.getElem?_eq_some_iff.1 h).1

theorem down_set {pr : List (List Nat)} {listed : Array Bool} {i : Nat} (hd : Down pr listed) (hi : i < listed.size) (hp : ∀ j ∈ pr.getD i [], listed.getD j false = true) : Down pr (listed.setIfInBounds i true) := by
  intro k hk j hj
  rw [getD_set hi] at hk ⊢
  split
  · rfl
  · by_cases e : k = i
    · subst e; exact hp j hj
    · rw [if_neg e] at hk; exact hd k hk j hj

theorem draw_go (hchk : chkGo ops (pres ops.toList) [] steps = true) (hall : ∀ i, i < ops.size → ∃ s ∈ steps, idx s = i) (hnd : (steps.map idx).Nodup) {Q : Exit → Act → World → Prop}
    (hQ : ∀ tm' h' M' act' w', K tm' h' → Rl M0 w0 n L tm' h' M' act' w' → Q .normal act' w') :
    ∀ (fuel : Nat) (listed : Array Bool) (act : Act) (w : World) tr rest pend h M, (List.range ops.size).countP (fun i => !listed.getD i true) ≤ fuel →
      J P ops steps K tm0 M0 w0 n L listed act w tr rest pend h M → wpAny P .any ops Q fuel listed act w := by
  have uniq : ∀ a s b t, steps = a ++ s :: b → t ∈ a ++ b → idx t ≠ idx s := by
    intro a s b t e ht he
    rw [e] at hnd
    rw [List.map_append, List.map_cons, List.nodup_append] at hnd
    obtain ⟨h1, h2, h3⟩ := hnd
    rcases List.mem_append.1 ht with ht | ht
    · exact h3 _ (List.mem_map.2 ⟨t, ht, rfl⟩) _ List.mem_cons_self he
    · exact (List.nodup_cons.1 h2).1 (List.mem_map.2 ⟨t, ht, he⟩)
  -- nothing is ready: the end
  have fin : ∀ (listed : Array Bool) (act : Act) (w : World) tr rest pend h M, J P ops steps K tm0 M0 w0 n L listed act w tr rest pend h M → Region.ready .any ops listed = [] → Q .normal act w := by
    intro listed act w tr rest pend h M j hr
    have all : ∀ s ∈ steps, listed.getD (idx s) false = true := by
      have key : ∀ (b a : List Stp), steps = a ++ b → (∀ s ∈ a, listed.getD (idx s) false = true) → ∀ s ∈ b, listed.getD (idx s) false = true := by
        intro b
        induction b with
        | nil => intro a _ _ s hs; cases hs
        | cons t b ih =>
          intro a e ha
          have ht : listed.getD (idx t) false = true := by
            obtain ⟨o, so⟩ := stepOk_at (e ▸ hchk)
            have hlt := lt_of_get so.get
            by_cases hl : listed.getD (idx t) false = true
            · exact hl
            · have : idx t ∈ Region.ready .any ops listed := by
                unfold Region.ready
                rw [List.mem_filter]
                refine ⟨List.mem_range.2 hlt, ?_⟩
                rw [so.get, getD_ft (by rw [j.size]; exact hlt) true false]
                simp only [Option.map_some, Option.getD_some, Bool.and_eq_true, Bool.not_eq_true']
                refine ⟨by simpa using hl, ?_⟩
                rw [Array.all_eq_true']
                intro ed hed
                cases hb : Region.binds .any ed with
                | false => simp
                | true =>
                  have hp := pres_on (ops := ops.toList) (i := idx t) (by rw [Array.getElem?_toList]; exact so.get) hed hb
                  obtain ⟨d, hd, hd'⟩ := so.pre _ hp
                  simp [← hd', ha d hd]
              rw [hr] at this
              cases this
          intro s hs
          rcases List.mem_cons.1 hs with rfl | hs
          · exact ht
          · exact ih (a ++ [t]) (by simp [e]) (fun s hs => by
              rcases List.mem_append.1 hs with hs | hs
              · exact ha s hs
              · simp at hs; subst hs; exact ht) s hs
      exact key steps [] rfl (fun s hs => by cases hs)
    have hrest : rest = [] := by
      cases hrr : rest with
      | nil => rfl
      | cons s r =>
        exfalso
        have e := j.split
        rw [hrr] at e
        obtain ⟨x, hx, hxi⟩ := j.inTr _ (all s (by rw [e]; simp))
        exact uniq _ s r x.1 e (List.mem_append_left _ (List.mem_map.2 ⟨x, hx, rfl⟩)) hxi
    have hk := j.adr
    rw [hrest] at hk
    have hrl := j.rl
    rw [runD_all tr tm0 (fun x hx => all x.1 (by rw [j.split]; exact List.mem_append_left _ (List.mem_map.2 ⟨x, hx, rfl⟩)))] at hrl
    unfold adr at hk
    exact hQ _ _ _ _ _ hk hrl
  intro fuel
  induction fuel with
  | zero =>
    intro listed act w tr rest pend h M hc j
    have hr : Region.ready .any ops listed = [] := by
      have h0 : (List.range ops.size).countP (fun i => !listed.getD i true) = 0 := by omega
      rw [List.countP_eq_zero] at h0
      unfold Region.ready
      rw [List.filter_eq_nil_iff]
      intro i hi
      have := h0 i hi
      simp at this
      simp [this]
    exact ⟨hr, fin _ _ _ _ _ _ _ _ j hr⟩
  | succ fuel ih =>
    intro listed act w tr rest pend h M hc j
    refine ⟨fin _ _ _ _ _ _ _ _ j, fun i hi => ?_⟩
    obtain ⟨hlt, hnl, hpre⟩ := ready_pres j.down hi
    have hls : i < listed.size := by rw [j.size]; exact hlt
    have hnl' : listed.getD i false = false := by rw [getD_ft hls false true]; exact hnl
    have hc' : (List.range ops.size).countP (fun k => !(listed.setIfInBounds i true).getD k true) ≤ fuel := by
      have := countP_dec (p := fun k => !listed.getD k true) (p' := fun k => !(listed.setIfInBounds i true).getD k true) (i := i) (by simp [hnl]) (by simp [getD_set hls]) (fun k hk => by simp [getD_set hls, hk]) (List.range ops.size) (List.mem_range.2 hlt)
      omega
    have hdown := down_set j.down hls hpre
    have hcong : ∀ l : List Ent, (∀ x ∈ l, idx x.1 ≠ i) → ∀ tm, runD ops ((listed.setIfInBounds i true).getD · false) tm l = runD ops (listed.getD · false) tm l := by
      intro l hl tm
      refine runD_congr l tm fun x hx => ?_
      rw [getD_set hls, if_neg (hl x hx)]
    obtain ⟨s, hs, hsi⟩ := hall i hlt
    rw [j.split] at hs
    rcases List.mem_append.1 hs with hs | hs
    · -- a step already taken in the list's order
      obtain ⟨x, hx, rfl⟩ := List.mem_map.1 hs
      obtain ⟨a, b, rfl⟩ := List.append_of_mem hx
      have hsp : steps = a.map (·.1) ++ x.1 :: (b.map (·.1) ++ rest) := by rw [j.split]; simp
      obtain ⟨o, so⟩ := stepOk_at (hsp ▸ hchk)
      have hex := j.ex x hx (by rw [hsi]; exact hnl')
      have htr := j.trOk a x b rfl
      have ha : ∀ y ∈ a, idx y.1 ≠ i := fun y hy e => uniq _ _ _ y.1 hsp (List.mem_append_left _ (List.mem_map.2 ⟨y, hy, rfl⟩)) (e.trans hsi.symm)
      have hb : ∀ y ∈ b, idx y.1 ≠ i := fun y hy e => uniq _ _ _ y.1 hsp (List.mem_append_right _ (List.mem_append_left _ (List.mem_map.2 ⟨y, hy, rfl⟩))) (e.trans hsi.symm)
      -- those listed behind it
      have hbz : ∀ z ∈ b, listed.getD (idx z.1) false = true → ∃ oz, ops[idx z.1]? = some oz ∧ Oper.apart ops o oz = true := by
        intro z hz hzl
        obtain ⟨b1, b2, rfl⟩ := List.append_of_mem hz
        have hsp2 : steps = (a.map (·.1) ++ x.1 :: b1.map (·.1)) ++ z.1 :: (b2.map (·.1) ++ rest) := by rw [hsp]; simp
        obtain ⟨oz, sz⟩ := stepOk_at (hsp2 ▸ hchk)
        have hnp : idx x.1 ∉ (pres ops.toList).getD (idx z.1) [] := fun hm => by
          have := j.down _ hzl _ hm
          rw [hsi, hnl'] at this
          cases this
        obtain ⟨ox, h1, h2⟩ := sz.apart x.1 (by simp) hnp
        rw [so.get] at h1; cases h1
        exact ⟨oz, sz.get, h2⟩
      have like : Like ops o x.2.1 (runD ops (listed.getD · false) tm0 (a ++ x :: b)) := by
        refine ⟨fun d hd e => ?_⟩
        rw [runD_append, runD_skip, htr]
        · symm
          refine run_agree a tm0 tm0 (fun y hy hyl hyd => ?_) rfl rfl
          have hnp : idx y.1 ∉ (pres ops.toList).getD (idx x.1) [] := fun hm => by
            rw [hsi] at hm
            rw [hpre _ hm] at hyl
            cases hyl
          obtain ⟨oy, h1, h2⟩ := so.apart y.1 (List.mem_map.2 ⟨y, hy, rfl⟩) hnp
          rw [dstI_of h1] at hyd
          exact (Oper.apart_spec h2).1 d hyd hd
        · intro z hz hzl hzd
          rcases List.mem_cons.1 hz with rfl | hz
          · rw [hsi, hnl'] at hzl; cases hzl
          · obtain ⟨oz, h1, h2⟩ := hbz z hz hzl
            rw [dstI_of h1] at hzd
            exact (Oper.apart_spec h2).2.2 d hzd hd
      have hput : ∀ v, v = x.2.2 → runD ops ((listed.setIfInBounds i true).getD · false) tm0 (a ++ x :: b) = put (runD ops (listed.getD · false) tm0 (a ++ x :: b)) o.dst v := by
        rintro v rfl
        rw [runD_append, runD_append, hcong a ha, runD, runD]
        rw [hsi, getD_set hls, if_pos rfl, hnl', if_pos rfl, if_neg (by simp), hcong b hb]
        have hdx : dstI ops i = o.dst := by rw [← hsi]; exact dstI_of so.get
        rw [hdx]
        refine runD_put b _ fun z hz hzl d hd hzd => ?_
        obtain ⟨oz, h1, h2⟩ := hbz z hz hzl
        rw [dstI_of h1] at hzd
        exact (Oper.apart_spec h2).2.1 d hd hzd
      have next : ∀ v M' act' w', v = x.2.2 → Rl M0 w0 n L (put (runD ops (listed.getD · false) tm0 (a ++ x :: b)) o.dst v) h M' act' w' → (∀ y ∈ a ++ x :: b, idx y.1 ≠ i → listed.getD (idx y.1) false = false → alS ops y.1 = true → M' (obOf y.2.2) = .absent) → wpAny P .any ops Q fuel (listed.setIfInBounds i true) act' w' := by
        intro v M' act' w' hv hrl hlt'
        refine ih _ act' w' (a ++ x :: b) rest pend h M' hc' ⟨j.split, j.head, by simpa using j.size, fun k hk => ?_, fun y hy hy' => ?_, j.trOk, j.cov, fun y hy hy' => ?_, j.adr, by rw [hput v hv]; exact hrl, fun y hy hy' hya => (by
          rw [getD_set hls] at hy'
          split at hy'
          · cases hy'
          · rename_i e; exact hlt' y hy e hy' hya), j.ge, j.dist, hdown⟩
        · rw [getD_set hls] at hk
          by_cases e : k = i
          · exact ⟨x, hx, by rw [hsi, e]⟩
          · rw [if_neg e] at hk; exact j.inTr k hk
        · rw [getD_set hls]
          split
          · rfl
          · exact j.chain y hy hy'
        · rw [getD_set hls] at hy'
          split at hy'
          · cases hy'
          · exact j.ex y hy hy'
      obtain ⟨hq, o', ho', hcase⟩ := hex
      rw [so.get] at ho'; cases ho'
      unfold wpOp
      rw [← hsi, so.get]
      simp only
      rw [hsi]
      have keep : ∀ M' : MM, (∀ o, o < h.length → M o = .absent → M' o = .absent) → ∀ y ∈ a ++ x :: b, idx y.1 ≠ i → listed.getD (idx y.1) false = false → alS ops y.1 = true → M' (obOf y.2.2) = .absent := by
        intro M' hM y hy _ hyl hya
        obtain ⟨oy, hoy, hl⟩ := ex_late (j.ex y hy hyl) hya
        exact hM _ hl.lt (j.late y hy hyl hya)
      rcases hcase with ⟨h1, h2⟩ | ⟨h1, h2, h3⟩ | hl
      · rw [if_neg (by rw [wanted_skip j.rl (like.skip h1)]; simp)]
        obtain ⟨v, h', M', ⟨rfl, rfl⟩, k2, k3⟩ := j.rl.step2 (K := fun v h' => v = .tup [] ∧ h' = h) (cv := undef) (w' := w) (.pure ⟨rfl, rfl⟩ j.rl.inv vrel_undef) o.dst
        exact next _ M' _ _ h2.symm k2 (keep _ k3)
      · rw [if_pos (wanted_take j.rl (like.take h1))]
        refine .inl (aop_sound (like.aop h3) j.rl.inv j.rl.tmps fun cv w' hp => ?_)
        obtain ⟨v, h', M', ⟨rfl, rfl⟩, k2, k3⟩ := j.rl.step2 hp o.dst
        exact next _ M' _ _ rfl k2 (keep _ k3)
      · have hxa : alS ops x.1 = true := hl.alS hq so.get
        have hxl : listed.getD (idx x.1) false = false := by rw [hsi]; exact hnl'
        have hab := j.late x hx hxl hxa
        have hge := j.ge x hx hxa
        have hdi := fun y hy => j.dist y hy x hx
        obtain ⟨t, z, ob, k1, k2, k3, k4, k5⟩ := hl
        have hob : obOf x.2.2 = ob := by rw [k4]; rfl
        rw [hob] at hab hge
        rw [if_pos (wanted_take j.rl (by unfold Take; rw [k2]; trivial))]
        refine .inl (alloc_late k1 k3 j.rl.inv hab k5 fun cv w' hi' hev hv => ?_)
        refine next _ _ _ _ k4.symm (j.rl.late hi' hev hv (fun o ho hM => ?_) o.dst) fun y hy hyi hyl hya => ?_
        · have : o ≠ ob := by omega
          simp [MM.with, this, hM]
        · have : obOf y.2.2 ≠ ob := fun e => hyi ((hdi y hy hya hxa (e.trans hob.symm)).trans hsi)
          simp only [MM.with, if_neg this]
          exact j.late y hy hyl hya
    · -- the next of the chain
      cases hrr : rest with
      | nil => rw [hrr] at hs; cases hs
      | cons s0 r =>
        have hsp : steps = tr.map (·.1) ++ s0 :: r := by rw [j.split, hrr]
        have hc0 := j.head s0 r hrr
        have hs0 : listed.getD (idx s0) false = false := by
          cases hl : listed.getD (idx s0) false with
          | false => rfl
          | true =>
            obtain ⟨x, hx, hxi⟩ := j.inTr _ hl
            exact absurd hxi (uniq _ s0 r x.1 hsp (List.mem_append_left _ (List.mem_map.2 ⟨x, hx, rfl⟩)))
        have hss : s = s0 := by
          rw [hrr] at hs
          rcases List.mem_cons.1 hs with h1 | h1
          · exact h1
          · exfalso
            obtain ⟨r1, r2, rfl⟩ := List.append_of_mem h1
            have hsp2 : steps = (tr.map (·.1) ++ s0 :: r1) ++ s :: r2 := by rw [hsp]; simp
            obtain ⟨o, so⟩ := stepOk_at (hsp2 ▸ hchk)
            have := so.chain s0 (by simp) hc0
            rw [hsi] at this
            rw [hpre _ this] at hs0
            cases hs0
        subst hss
        obtain ⟨o, so⟩ := stepOk_at (hsp ▸ hchk)
        have htri : ∀ y ∈ tr, idx y.1 ≠ i := fun y hy e => uniq _ _ _ y.1 hsp (List.mem_append_left _ (List.mem_map.2 ⟨y, hy, rfl⟩)) (e.trans hsi.symm)
        have like : Like ops o (runT ops tm0 tr) (runD ops (listed.getD · false) tm0 tr) := by
          refine ⟨fun d hd e => ?_⟩
          symm
          refine run_agree tr tm0 tm0 (fun y hy hyl hyd => ?_) rfl rfl
          have hnp : idx y.1 ∉ (pres ops.toList).getD (idx s) [] := fun hm => by
            rw [hsi] at hm
            rw [hpre _ hm] at hyl
            cases hyl
          obtain ⟨oy, h1, h2⟩ := so.apart y.1 (List.mem_map.2 ⟨y, hy, rfl⟩) hnp
          rw [dstI_of h1] at hyd
          exact (Oper.apart_spec h2).1 d hyd hd
        have hdx : dstI ops (idx s) = o.dst := dstI_of so.get
        have hchk' : chkGo ops (pres ops.toList) (tr.map (·.1) ++ [s]) r = true := by
          have := chkGo_at (tr.map (·.1) ++ [s]) [] (b := r) (by rw [List.append_assoc]; rw [hsp] at hchk; exact hchk)
          rwa [List.nil_append] at this
        have next : ∀ v h' M' act' w', (∀ x ∈ tr, listed.getD (idx x.1) false = false → Ex P ops h' x) → adr P ops.toList r (put (runT ops tm0 tr) o.dst v) h' pend K →
            Rl M0 w0 n L (put (runD ops (listed.getD · false) tm0 tr) o.dst v) h' M' act' w' → (∀ y ∈ tr, listed.getD (idx y.1) false = false → alS ops y.1 = true → M' (obOf y.2.2) = .absent) → wpAny P .any ops Q fuel (listed.setIfInBounds i true) act' w' := by
          intro v h' M' act' w' hex hk hrl hlate
          have hsA : alS ops s = false := by simp [alS, hc0]
          have hrun : runT ops tm0 (tr ++ [(s, runT ops tm0 tr, v)]) = put (runT ops tm0 tr) o.dst v := by
            rw [runT_append, runT, runT, hdx]
          rw [← hrun] at hk
          have hcov : ∀ x ∈ tr ++ [(s, runT ops tm0 tr, v)], Cov ops pend x := by
            intro x hx
            rcases List.mem_append.1 hx with hx | hx
            · exact j.cov x hx
            · simp at hx; subst hx
              intro hf
              simp only at hf
              rw [hc0] at hf; cases hf
          obtain ⟨tr', rest', pend', e1, e2, e3, e4, e5, e6⟩ := adr_advance r (tr.map (·.1) ++ [s]) tm0 (tr ++ [(s, runT ops tm0 tr, v)]) h' pend hchk' (.inl ⟨s, by simp, hsA⟩) (j.trOk.snoc rfl) hcov hk
          have hsp3 : steps = (tr ++ [(s, runT ops tm0 tr, v)] ++ tr').map (·.1) ++ rest' := by rw [hsp, e1]; simp
          have hi' : ∀ y ∈ tr', idx y.1 ≠ i := fun y hy e => uniq _ s r y.1 hsp (List.mem_append_right _ (by rw [e1]; exact List.mem_append_left _ (List.mem_map.2 ⟨y, hy, rfl⟩))) (e.trans hsi.symm)
          have hun : ∀ y ∈ tr', listed.getD (idx y.1) false = false := by
            intro y hy
            cases hl : listed.getD (idx y.1) false with
            | false => rfl
            | true =>
              exfalso
              obtain ⟨x, hx, hxi⟩ := j.inTr _ hl
              obtain ⟨t1, t2, rfl⟩ := List.append_of_mem hy
              have : steps = (tr.map (·.1) ++ s :: t1.map (·.1)) ++ y.1 :: (t2.map (·.1) ++ rest') := by rw [hsp, e1]; simp
              exact uniq _ _ _ x.1 this (List.mem_append_left _ (List.mem_append_left _ (List.mem_map.2 ⟨x, hx, rfl⟩))) hxi
          have inOld : ∀ y ∈ tr ++ [(s, runT ops tm0 tr, v)] ++ tr', alS ops y.1 = true → y ∈ tr := by
            intro y hy hya
            rcases List.mem_append.1 hy with hy | hy
            · rcases List.mem_append.1 hy with hy | hy
              · exact hy
              · simp at hy; subst hy; rw [hsA] at hya; cases hya
            · rw [(e5 y hy).2] at hya; cases hya
          have hl' : ∀ k, (listed.setIfInBounds i true).getD k false = if k = i then true else listed.getD k false := fun k => getD_set hls
          refine ih _ act' w' (tr ++ [(s, runT ops tm0 tr, v)] ++ tr') rest' pend' h' M' hc' ⟨hsp3, e2, by simpa using j.size, fun k hk => ?_, fun y hy hy' => ?_, e3, e4, fun y hy hy' => ?_, e6, ?_, fun y hy hy' hya => ?_, fun y hy hya => ?_, fun y hy y2 hy2 hya hya2 => ?_, hdown⟩
          · rw [hl'] at hk
            by_cases e : k = i
            · exact ⟨(s, runT ops tm0 tr, v), by simp, by simp [hsi, e]⟩
            · rw [if_neg e] at hk
              obtain ⟨x, hx, hxi⟩ := j.inTr k hk
              exact ⟨x, by simp [hx], hxi⟩
          · rw [hl']
            split
            · rfl
            · rename_i e
              rcases List.mem_append.1 hy with hy | hy
              · rcases List.mem_append.1 hy with hy | hy
                · exact j.chain y hy hy'
                · simp at hy; subst hy; exact absurd hsi e
              · obtain ⟨⟨hq, -⟩, -⟩ := e5 y hy
                rw [hq] at hy'; cases hy'
          · rw [hl'] at hy'
            split at hy'
            · cases hy'
            · rename_i e
              rcases List.mem_append.1 hy with hy | hy
              · rcases List.mem_append.1 hy with hy | hy
                · exact hex y hy hy'
                · simp at hy; subst hy; exact absurd hsi e
              · exact (e5 y hy).1
          · rw [runD_append, runD_append, hcong tr htri, runD_none tr']
            · rw [runD, runD]
              simp only
              rw [hl', if_pos hsi, if_pos rfl, hdx]
              exact hrl
            · intro y hy
              rw [hl', if_neg (hi' y hy)]
              exact hun y hy
          · have hyt := inOld y hy hya
            rw [hl'] at hy'
            split at hy'
            · cases hy'
            · exact hlate y hyt hy' hya
          · exact j.ge y (inOld y hy hya) hya
          · exact j.dist y (inOld y hy hya) y2 (inOld y2 hy2 hya2) hya hya2
        have hk := j.adr
        rw [hrr] at hk
        unfold wpOp
        rw [← hsi, so.get]
        simp only
        rw [hsi]
        have keep : ∀ M' : MM, (∀ o, o < h.length → M o = .absent → M' o = .absent) → ∀ y ∈ tr, listed.getD (idx y.1) false = false → alS ops y.1 = true → M' (obOf y.2.2) = .absent := by
          intro M' hM y hy hyl hya
          obtain ⟨oy, hoy, hl⟩ := ex_late (j.ex y hy hyl) hya
          exact hM _ hl.lt (j.late y hy hyl hya)
        rcases adr_cons so.get hk with ⟨h1, hk⟩ | ⟨h1, hk⟩
        · rw [if_neg (by rw [wanted_skip j.rl (like.skip h1)]; simp)]
          obtain ⟨v, h', M', ⟨rfl, rfl⟩, k2, k3⟩ := j.rl.step2 (K := fun v h' => v = .tup [] ∧ h' = h) (cv := undef) (w' := w) (.pure ⟨rfl, rfl⟩ j.rl.inv vrel_undef) o.dst
          exact next _ _ M' _ _ j.ex hk k2 (keep _ k3)
        · cases s with
          | q k => simp [isC] at hc0
          | c k re =>
            simp only at hk
            rw [if_pos (wanted_take j.rl (like.take h1))]
            refine .inl (aop_sound (like.aop hk) j.rl.inv j.rl.tmps fun cv w' hp => ?_)
            obtain ⟨v, h', M', ⟨k1, k1'⟩, k2, k3⟩ := j.rl.step2 hp o.dst
            refine next v h' M' _ _ (fun x hx hxl => ?_) k1' k2 (keep _ k3)
            refine (j.ex x hx hxl).move (j.cov x hx) k1 fun ox hox hl => ?_
            refine so.re k re rfl x.1 (List.mem_map.2 ⟨x, hx, rfl⟩) ?_ ?_ ox hox hl
            · cases hcx : isC x.1 with
              | false => rfl
              | true => rw [j.chain x hx hcx] at hxl; cases hxl
            · intro hm
              have : k = i := hsi
              rw [this] at hm
              rw [hpre _ hm] at hxl
              cases hxl

theorem ADraw.intro {tm : List AV} {h : Heap} (hm : P.follows .mixedOrders = true) (hchk : chk ops steps = true) (hk : adr P ops.toList steps tm h [] K) : ADraw P ops tm h K := by
  intro M0 w0 n L M w act hr id Q hQ
  refine wp_region_any hm ?_
  unfold chk at hchk
  simp only [Bool.and_eq_true, List.all_eq_true, decide_eq_true_eq] at hchk
  obtain ⟨⟨h1, h2⟩, h3⟩ := hchk
  have hall : ∀ i, i < ops.size → ∃ s ∈ steps, idx s = i := by
    intro i hi
    have := h2 i (List.mem_range.2 hi)
    rw [List.contains_iff_mem] at this
    obtain ⟨s, h4, h5⟩ := List.mem_map.1 this
    exact ⟨s, h4, h5⟩
  obtain ⟨tr0, rest0, pend0, g, f1, f2, f3, f4, f5, f6, f7, f8⟩ := adr_front (pr := pres ops.toList) (n := h.length) steps [] tm [] h [] h1 (Nat.le_refl _) (fun a x b e => by simp at e) (fun x hx => by cases hx) (fun x hx => by cases hx) ⟨fun x hx => (by cases hx), fun x hx => (by cases hx), fun x hx => (by cases hx)⟩ hk
  rw [List.nil_append] at f3 f4 f5 f6 f7 f8
  obtain ⟨tr', rest', pend', e1, e2, e3, e4, e5, e6⟩ := adr_advance rest0 _ tm tr0 (h ++ g) pend0 f7 (.inr f2) f3 f4 f8
  have hf : ∀ k, (Array.replicate ops.size false).getD k false = false := by
    intro k
    simp only [Array.getD_eq_getD_getElem?, Array.getElem?_replicate]
    split <;> rfl
  have hrl : Rl M0 w0 n L tm (h ++ g) M act w := by
    refine ⟨⟨fun o ob ho => ?_, fun o ho => ?_, fun o ho => hr.inv.out o (by simp at ho; omega), hr.inv.inj, hr.inv.lt⟩, hr.tmps, hr.defers, hr.ev, hr.abs, by have := hr.le; simp; omega, hr.len⟩
    · by_cases hl : o < h.length
      · rw [List.getElem?_append_left hl] at ho; exact hr.inv.live o ob ho
      · exact .inl (hr.inv.out o (by omega))
    · by_cases hl : o < h.length
      · rw [List.getElem?_append_left hl] at ho; exact hr.inv.dead o ho
      · exact .inr (hr.inv.out o (by omega))
  have inOld : ∀ y ∈ tr0 ++ tr', alS ops y.1 = true → y ∈ tr0 := by
    intro y hy hya
    rcases List.mem_append.1 hy with hy | hy
    · exact hy
    · rw [(e5 y hy).2] at hya; cases hya
  have hout : ∀ y ∈ tr0, alS ops y.1 = true → M (obOf y.2.2) = .absent := by
    intro y hy hya
    exact hr.inv.out _ (f6.ge y hy hya)
  refine draw_go h1 hall h3 hQ ops.size _ act _ (tr0 ++ tr') rest' pend' (h ++ g) M ?_ ⟨by rw [f1, e1]; simp, e2, by simp, fun k hk => ?_, fun y hy hy' => ?_, e3, e4, fun y hy _ => ?_, e6, ?_, fun y hy _ hya => hout y (inOld y hy hya) hya, fun y hy hya => Nat.le_trans hr.le (f6.ge y (inOld y hy hya) hya), fun y hy y2 hy2 hya hya2 => f6.dist y (inOld y hy hya) y2 (inOld y2 hy2 hya2) hya hya2, fun k hk => ?_⟩
  · refine Nat.le_trans (List.countP_le_length) (by simp)
  · rw [hf] at hk; cases hk
  · rcases List.mem_append.1 hy with hy | hy
    · rw [(f5 y hy).2.1] at hy'; cases hy'
    · obtain ⟨⟨hq, -⟩, -⟩ := e5 y hy
      rw [hq] at hy'; cases hy'
  · rcases List.mem_append.1 hy with hy | hy
    · obtain ⟨-, hq, o, ho, hl⟩ := f5 y hy
      exact ⟨hq, o, ho, .inr (.inr hl)⟩
    · exact (e5 y hy).1
  · rw [runD_none _ _ (fun x hx => hf _)]
    exact hrl.drawn
  · rw [hf] at hk; cases hk
end
end Go.Am
