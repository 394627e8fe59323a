/- A part of the proof that AliasThings and AliasMeets return true for every module: texts on an abstract reading of the code (AmSound, AmCall, AmRet, AmLate). -/
import Derived.Test.YtdmaniffgdpfeaaXAmFz
set_option linter.unusedVariables false
set_option linter.unusedSimpArgs false
set_option linter.unusedSectionVars false
set_option linter.unusedVariables false
namespace Go.Am
open Go
section
variable {P : Program} {M0 : MM} {w0 : World} {n L : Nat}

theorem put_length {tm : List AV} {d v} : (put tm d v).length = tm.length := by cases d <;> simp [put]
theorem Rl.step {tm h M act w} (hr : Rl M0 w0 n L tm h M act w) {K : AV → Heap → Prop} {cv w'} (hp : Post M w h.length K cv w') (dst : Option Tmp) :
    ∃ v h' M', K v h' ∧ Rl M0 w0 n L (put tm dst v) h' M' (act.put dst cv) w' := by
  obtain ⟨v, h', M', h1, h2, h3, h4, h5, h6⟩ := hp
  refine ⟨v, h', M', h1, h2, ?_, ?_, hr.ev.trans h4, fun o ho hab => h5 o (Nat.lt_of_lt_of_le ho hr.le) (hr.abs o ho hab), Nat.le_trans hr.le h6, by rw [put_length]; exact hr.len⟩
  · exact (hr.tmps.ev h4).put (d := act.defers) dst h3
  · have := hr.defers
    cases dst <;> exact this
theorem Rl.set {tm h M act w} (hr : Rl M0 w0 n L tm h M act w) (d : Nat) {x : AV} (hx : tm.getD d (.tup []) = x) : Rl M0 w0 n L (tm.set d x) h M act w := by
  have : tm.set d x = tm := by
    by_cases hd : d < tm.length
    · rw [← hx]
      apply List.ext_getElem?
      intro j
      rw [List.getElem?_set]
      split
      · rename_i e; subst e; simp [List.getD, hd]
      · rfl
    · exact List.set_eq_of_length_le (by omega)
  rw [this]
  exact hr
theorem yielded_of {ops : Array Oper} {tm : List AV} {M : MM} {w : World} {act : Act} {j d : Nat} (hg : guardTmp ops.toList j = some d) (ht : Tmps M w tm act.tmps) :
    (∀ b, tm.getD d (.tup []) = .val (.bool b) → yielded ops act.tmps j = some b) ∧ (tm.getD d (.tup []) = .tup [] → yielded ops act.tmps j = none) := by
  have hd : (ops[j]?).bind (·.dst) = some d := by
    unfold guardTmp gTmp dstOf at hg
    rw [Array.getElem?_toList] at hg
    cases hq : ops[j]? with
    | none => simp [hq] at hg
    | some o => simp [hq] at hg; simp [hg]
  have hv := ht.get d
  constructor
  · intro b hb
    rw [hb] at hv
    have := vrel_bool hv
    have hlt : d < act.tmps.size := by
      by_cases h : d < act.tmps.size
      · exact h
      · simp [Array.getD, h, undef] at this
    simp [yielded, hd, hlt]
    simp [Array.getD, hlt] at this
    simp [this]
  · intro hb
    rw [hb] at hv
    simp [yielded, hd]
    by_cases hlt : d < act.tmps.size
    · simp [Array.getD, hlt] at hv
      simp [hlt]
      generalize act.tmps[d] = v at hv ⊢
      cases hv with
      | tup _ vs hl => rfl
    · simp [hlt]
theorem aops_sound {ops : Array Oper} {Q : Exit → Act → World → Prop} {K : KO} (hK : ∀ tm' h' M' act' w', K tm' h' → Rl M0 w0 n L tm' h' M' act' w' → Q .normal act' w') (rest : List Oper) :
    ∀ (i : Nat) tm h M act w, rest = ops.toList.drop i → aops P ops.toList rest tm h K → Rl M0 w0 n L tm h M act w → wpOps P ops Q (List.range' i rest.length) act w := by
  induction rest with
  | nil =>
    intro i tm h M act w _ hk hr
    rw [aops_nil] at hk
    exact hK _ _ _ _ _ hk hr
  | cons o rest ih =>
    intro i tm h M act w hd hk hr
    have ho : ops[i]? = some o := by
      rw [← Array.getElem?_toList]
      have := congrArg (·[0]?) hd
      simpa using this.symm
    have hd' : rest = ops.toList.drop (i + 1) := by
      have := congrArg List.tail hd
      simpa using this
    rw [List.length_cons, List.range'_succ, wpOps_cons]
    unfold wpOp
    rw [ho]
    simp only
    have run : ∀ tm, aop P o tm h (fun v h' => aops P ops.toList rest (put tm o.dst v) h' K) → Rl M0 w0 n L tm h M act w → o.wp P act w (wpOps P ops Q (List.range' (i + 1) rest.length)) Q := by
      intro tm hk hr
      refine aop_sound hk hr.inv hr.tmps fun cv w' hp => ?_
      obtain ⟨v, h', M', h1, h2⟩ := hr.step hp o.dst
      exact ih (i + 1) _ _ _ _ _ hd' h1 h2
    have skip : ∀ tm, aops P ops.toList rest (put tm o.dst (.tup [])) h K → Rl M0 w0 n L tm h M act w → wpOps P ops Q (List.range' (i + 1) rest.length) (act.put o.dst undef) w := by
      intro tm hk hr
      obtain ⟨v, h', M', h1, h2⟩ := hr.step (K := fun v h' => v = .tup [] ∧ h' = h) (cv := undef) (w' := w) (.pure ⟨rfl, rfl⟩ hr.inv vrel_undef) o.dst
      obtain ⟨rfl, rfl⟩ := h1
      exact ih (i + 1) _ _ _ _ _ hd' hk h2
    obtain ⟨dst, op, type, pos, after, guard⟩ := o
    cases guard with
    | none =>
      rw [if_pos (by simp [Region.wanted])]
      simp only [aops] at hk
      exact .inl (run tm hk hr)
    | some g =>
      obtain ⟨j, want⟩ := g
      rw [aops_guard] at hk
      cases hg : guardTmp ops.toList j with
      | none => rw [hg] at hk; exact hk.elim
      | some d =>
        rw [hg, agd0_some] at hk
        obtain ⟨y1, y2⟩ := yielded_of hg hr.tmps
        unfold agd at hk
        split at hk
        · rename_i b hb
          have hy := y1 b hb
          by_cases hbw : b = want
          · subst hbw
            rw [if_pos (by simp [Region.wanted, hy])]
            exact .inl (run _ (hk.1 (by simp)) (hr.set d hb))
          · rw [if_neg (by simp [Region.wanted, hy, hbw])]
            have hb' : b = !want := by cases b <;> cases want <;> simp_all
            subst hb'
            exact skip _ (hk.2 (by simp)) (hr.set d hb)
        · rename_i hb
          rw [if_neg (by simp [Region.wanted, y2 hb])]
          exact skip tm hk hr
        · exact hk.elim

def exitOf : AExit → Exit
  | .normal => .normal
  | .exit id => .exit id
  | .ret => .ret
def CPost (M0 : MM) (w0 : World) (n L : Nat) (K : Kont) (e : Exit) (act : Act) (w : World) : Prop :=
  ∃ e' tm h M, exitOf e' = e ∧ K e' tm h ∧ Rl M0 w0 n L tm h M act w

theorem mkT_rel {tm h M act w} (hr : Rl M0 w0 n L tm h M act w) (sl : List Nat) : Rl M0 w0 n L (mkT tm.length (sl.zip (gets tm sl))) h M act w := by
  have key : ∀ (sl : List Nat) (t : List AV), t.length = tm.length → Tmps M w t act.tmps → (setL (sl.zip (gets tm sl)) t).length = tm.length ∧ Tmps M w (setL (sl.zip (gets tm sl)) t) act.tmps := by
    intro sl
    induction sl with
    | nil => intro t hl ht; exact ⟨hl, ht⟩
    | cons s sl ih =>
      intro t hl ht
      rw [gets_cons, List.zip_cons_cons, setL_cons]
      refine ih _ (by simpa using hl) ⟨by simp [hl, hr.tmps.1], fun i x v h1 h2 => ?_⟩
      rw [List.getElem?_set] at h1
      split at h1
      · rename_i e; subst e
        split at h1
        · rename_i hlt
          cases h1
          have hlt' : s < tm.length := by omega
          have e1 : tm.getD s .any = tm[s] := by simp [List.getD, hlt']
          rw [e1]
          exact hr.tmps.2 s _ v (List.getElem?_eq_getElem hlt') h2
        · cases h1
      · exact ht.2 i x v h1 h2
  obtain ⟨k1, k2⟩ := key sl (List.replicate tm.length .any) (by simp) ⟨by simp [hr.tmps.1], fun i x v h1 h2 => by
    have := (List.mem_replicate.1 (List.mem_of_getElem? h1)).2
    subst this
    exact .any v⟩
  exact ⟨hr.inv, k2, hr.defers, hr.ev, hr.abs, hr.le, by rw [mkT_eq, k1]; exact hr.len⟩

theorem exists_min {S : Nat → Prop} (hx : ∃ m, S m) : ∃ m, S m ∧ ∀ k, S k → m ≤ k := by
  obtain ⟨m, hm⟩ := hx
  induction m using Nat.strongRecOn with
  | _ m ih =>
    by_cases hk : ∃ k, k < m ∧ S k
    · obtain ⟨k, h1, h2⟩ := hk
      exact ih k h1 h2
    · exact ⟨m, hm, fun k h => Nat.le_of_not_lt fun hlt => hk ⟨k, hlt, h⟩⟩
noncomputable def minOf (S : Nat → Prop) : Nat := open Classical in if hx : ∃ m, S m then Classical.choose (exists_min hx) else 0
theorem minOf_spec {S : Nat → Prop} (hx : ∃ m, S m) : S (minOf S) ∧ ∀ k, S k → minOf S ≤ k := by
  unfold minOf
  rw [dif_pos hx]
  exact Classical.choose_spec (exists_min hx)
theorem aw_sound (c : Code) : ∀ {tm h K M act w}, aw P c tm h K → Rl M0 w0 n L tm h M act w → c.wp P (CPost M0 w0 n L K) act w := by
  induction c with
  | skip => intro tm h K M act w hk hr; exact wp_skip ⟨.normal, tm, h, M, rfl, hk, hr⟩
  | region id ops draw =>
    intro tm h K M act w hk hr
    cases draw with
    | false =>
      have := aops_sound (Q := CPost M0 w0 n L K) (ops := ops) (fun tm' h' M' act' w' h1 h2 => ⟨.normal, tm', h', M', rfl, h1, h2⟩) ops.toList 0 tm h M act w (by simp) hk hr
      refine wp_region ?_
      rw [List.range_eq_range']
      simpa using this
    | true => exact hk M0 w0 n L M w act hr id _ (fun tm' h' M' act' w' h1 h2 => ⟨.normal, tm', h', M', rfl, h1, h2⟩)
  | seq a b iha ihb =>
    intro tm h K M act w hk hr
    refine wp_seq (wp_mono (iha hk hr) fun e a' w' hp => ?_)
    obtain ⟨e', tm', h', M', rfl, h1, h2⟩ := hp
    cases e' with
    | normal => exact ihb h1 h2
    | exit id => exact ⟨.exit id, tm', h', M', rfl, h1, h2⟩
    | ret => exact ⟨.ret, tm', h', M', rfl, h1, h2⟩
  | cond c x y ihx ihy =>
    intro tm h K M act w hk hr
    simp only [aw, acond] at hk
    split at hk
    · rename_i t ht
      have hc := rho_rel hr.tmps c
      rw [ht] at hc
      exact wp_cond_split (vrel_bool hc) (fun e => ihx (hk.1 e) hr) (fun e => ihy (hk.2 e) hr)
    · exact hk.elim
  | block id c ih =>
    intro tm h K M act w hk hr
    refine wp_block (wp_mono (ih hk hr) fun e a' w' hp => ?_)
    obtain ⟨e', tm', h', M', rfl, h1, h2⟩ := hp
    cases e' with
    | normal => exact ⟨.normal, tm', h', M', rfl, h1, h2⟩
    | ret => exact ⟨.ret, tm', h', M', rfl, h1, h2⟩
    | exit id' =>
      simp only [exitOf, Exit.inBlock]
      rw [kBlock_exit] at h1
      split at h1
      · rename_i e; rw [if_pos e]; exact ⟨.normal, tm', h', M', rfl, h1, h2⟩
      · rename_i e; rw [if_neg e]; exact ⟨.exit id', tm', h', M', rfl, h1, h2⟩
  | loop c ih =>
    intro tm h K M act w hk hr
    obtain ⟨fz, sl, I, μ, h0, hrd⟩ := hk
    let S : Act → World → Nat → Prop := fun a w m => ∃ vs h M, vs.length = sl.length ∧ I vs h ∧ Rl M0 w0 n L (mkT tm.length (sl.zip vs)) h M a w ∧ μ vs h = m
    have enter : ∀ (tm1 : List AV) (h1 : Heap) (M1 : MM) (a : Act) (w : World), tm1.length = tm.length → Rl M0 w0 n L tm1 h1 M1 a w → ∀ J : List AV → Heap → Prop, FzV J (gets tm1 sl) h1 → ∃ vs h2 M2, vs.length = sl.length ∧ J vs h2 ∧ Rl M0 w0 n L (mkT tm.length (sl.zip vs)) h2 M2 a w := by
      intro tm1 h1 M1 a w hl hr1 J hJ
      obtain ⟨S', vs', h', f1, f2, f3⟩ := hJ
      have hr2 := mkT_rel hr1 sl
      rw [hl] at hr2
      exact ⟨vs', h', kill S' M1, by rw [f1.spec.1]; simp [gets], f3, hr2.frz (mkT_frz _ _ f1) f2⟩
    have start : ∃ m, S act w m := by
      cases fz with
      | false => exact ⟨_, gets tm sl, h, M, by simp [gets], h0, mkT_rel hr sl, rfl⟩
      | true =>
        obtain ⟨vs, h2, M2, q1, q2, q3⟩ := enter tm h M act w rfl hr _ h0
        exact ⟨_, vs, h2, M2, q1, q2, q3, rfl⟩
    refine wp_loop (fun a w => ∃ m, S a w m) (fun a w => minOf (S a w)) start ?_
    intro a w hS
    obtain ⟨vs, h1, M1, hvl, hI, hr2, hmu⟩ := (minOf_spec hS).1
    have ha := hrd vs h1 hvl hI
    refine wp_mono (ih ha hr2) fun e a' w' hp => ?_
    obtain ⟨e', tm', h', M', rfl, k1, k2⟩ := hp
    have hl' : tm'.length = tm.length := k2.len.trans hr.len.symm
    cases e' with
    | normal =>
      have : ∃ vs2 h2 M2, vs2.length = sl.length ∧ (I vs2 h2 ∧ μ vs2 h2 < μ vs h1) ∧ Rl M0 w0 n L (mkT tm.length (sl.zip vs2)) h2 M2 a' w' := by
        cases fz with
        | false =>
          have hr3 := mkT_rel k2 sl
          rw [hl'] at hr3
          exact ⟨gets tm' sl, h', M', by simp [gets], k1, hr3⟩
        | true => exact enter tm' h' M' a' w' hl' k2 _ k1
      obtain ⟨vs2, h2, M2, q0, ⟨q1, q2⟩, q3⟩ := this
      have hS' : ∃ m, S a' w' m := ⟨_, vs2, h2, M2, q0, q1, q3, rfl⟩
      refine ⟨hS', ?_⟩
      have hle := (minOf_spec hS').2 _ ⟨vs2, h2, M2, q0, q1, q3, rfl⟩
      rw [hmu] at q2
      exact Nat.lt_of_le_of_lt hle q2
    | exit id => cases fz <;> exact ⟨.exit id, tm', h', M', rfl, k1, k2⟩
    | ret => cases fz <;> exact ⟨.ret, tm', h', M', rfl, k1, k2⟩
  | exit id => intro tm h K M act w hk hr; exact wp_exit ⟨.exit id, tm, h, M, rfl, hk, hr⟩
  | ret => intro tm h K M act w hk hr; exact wp_ret ⟨.ret, tm, h, M, rfl, hk, hr⟩
  | label l => intro tm h K M act w hk hr; exact wp_label ⟨.normal, tm, h, M, rfl, hk, hr⟩
  | rangeFunc => intro tm h K M act w hk hr; exact hk.elim
  | scope => intro tm h K M act w hk hr; exact hk.elim
  | goto => intro tm h K M act w hk hr; exact hk.elim
  | refuse => intro tm h K M act w hk hr; exact hk.elim
end
end Go.Am

set_option linter.unusedVariables false
namespace Go.Am
open Go

/-! ### references below a bound -/
inductive RB (n : Nat) : AV → Prop
  | any : RB n .any
  | val (v) : RB n (.val v)
  | emp : RB n .emp
  | agg (xs : List AV) (h : ∀ x ∈ flats xs, RB n x) : RB n (.agg xs)
  | tup (xs : List AV) (h : ∀ x ∈ xs, RB n x) : RB n (.tup xs)
  | il (sz : Nat) (xs : List AV) (h : ∀ x ∈ flats xs, RB n x) : RB n (.il sz xs)
  | iptr (x : AV) (h : ∀ y ∈ flat x, RB n y) : RB n (.iptr x)
  | fn (f : Fn) (xs ys : List AV) (h : ∀ x ∈ xs, RB n x) (h' : ∀ x ∈ ys, RB n x) : RB n (.fn f xs ys)
  | sl (o sz off len : Nat) (cap : Option Nat) (h : o < n) : RB n (.sl o sz off len cap)
  | ptr (o sz i k : Nat) (p : List Nat) (h : o < n) : RB n (.ptr o sz i k p)
  | mp (o : Nat) (h : o < n) : RB n (.mp o)
def RBo (n : Nat) : AObj → Prop
  | .arr _ _ xs => ∀ x ∈ flats xs, RB n x
  | .map kvs => ∀ kv ∈ kvs, RB n kv.1 ∧ RB n kv.2
def cut (M : MM) (n : Nat) : MM := fun o => if o < n then M o else .absent

section
variable {P : Program} {M : MM} {w : World} {n : Nat} {h : Heap}
theorem rb_of_vrel (hM : ∀ o, n ≤ o → M o = .absent) {x v} (hv : VRel M w x v) : RB n x := by
  have lt : ∀ o, M o ≠ .absent → o < n := fun o ho => Nat.lt_of_not_le fun hle => ho (hM o hle)
  induction hv with
  | any => exact .any
  | val v => exact .val v
  | emp => exact .emp
  | agg xs cs hl hr ih =>
    refine .agg xs fun x hx => ?_
    obtain ⟨i, hi, rfl⟩ := List.mem_iff_getElem.1 hx
    exact ih i _ (cs[i]'(by omega)) (List.getElem?_eq_getElem hi) (Array.getElem?_eq_getElem _)
  | tup xs vs hl hr ih =>
    refine .tup xs fun x hx => ?_
    obtain ⟨i, hi, rfl⟩ := List.mem_iff_getElem.1 hx
    exact ih i _ (vs[i]'(by omega)) (List.getElem?_eq_getElem hi) (Array.getElem?_eq_getElem _)
  | il sz xs a c vs hlc hu hvl hc hr ih =>
    refine .il sz xs fun x hx => ?_
    obtain ⟨i, hi, rfl⟩ := List.mem_iff_getElem.1 hx
    exact ih i _ (vs[i]'(by omega)) (List.getElem?_eq_getElem hi) (List.getElem?_eq_getElem _)
  | iptr x b off vs hvl hb hlt hc hr ih =>
    refine .iptr x fun y hy => ?_
    obtain ⟨i, hi, rfl⟩ := List.mem_iff_getElem.1 hy
    exact ih i _ (vs[i]'(by omega)) (List.getElem?_eq_getElem hi) (List.getElem?_eq_getElem _)
  | fn f xs ys vs us hl hl' hr hr' ih ih' =>
    refine .fn f xs ys (fun x hx => ?_) (fun x hx => ?_)
    · obtain ⟨i, hi, rfl⟩ := List.mem_iff_getElem.1 hx
      exact ih i _ (vs[i]'(by omega)) (List.getElem?_eq_getElem hi) (Array.getElem?_eq_getElem _)
    · obtain ⟨i, hi, rfl⟩ := List.mem_iff_getElem.1 hx
      exact ih' i _ (us[i]'(by omega)) (List.getElem?_eq_getElem hi) (Array.getElem?_eq_getElem _)
  | sl o sz off len cap b bo c a hM => exact .sl o sz off len cap (lt o (by rw [hM]; simp))
  | ptr o sz i k p b bo hM => exact .ptr o sz i k p (lt o (by rw [hM]; simp))
  | mp o b bo hM => exact .mp o (lt o (by rw [hM]; simp))
  | sld o sz off len cap c a hM => exact .sl o sz off len cap (lt o (by rw [hM]; simp))
  | ptrd o sz i k p a hM => exact .ptr o sz i k p (lt o (by rw [hM]; simp))
  | mpd o b hM => exact .mp o (lt o (by rw [hM]; simp))
theorem blk_cut {b} (hb : blk (cut M n) b) : blk M b := by
  obtain ⟨o, a, ho, rfl⟩ := hb
  unfold cut at ho
  split at ho
  · exact ⟨o, a, ho, rfl⟩
  · cases ho
theorem vrel_cut {x v} (hv : VRel M w x v) : RB n x → VRel (cut M n) w x v := by
  have eq : ∀ o, o < n → cut M n o = M o := fun o ho => by simp [cut, ho]
  induction hv with
  | any v => intro _; exact .any v
  | val v hg => intro _; exact .val v hg
  | emp a => intro _; exact .emp a
  | agg xs cs hl hr ih =>
    intro hb; cases hb with
    | agg _ hb => exact .agg xs cs hl fun i x v h1 h2 => ih i x v h1 h2 (hb x (List.mem_of_getElem? h1))
  | tup xs vs hl hr ih =>
    intro hb; cases hb with
    | tup _ hb => exact .tup xs vs hl fun i x v h1 h2 => ih i x v h1 h2 (hb x (List.mem_of_getElem? h1))
  | il sz xs a c vs hlc hu hvl hc hr ih =>
    intro hb; cases hb with
    | il _ _ hb =>
      exact .il sz xs a c vs hlc hu hvl (fun hne => let ⟨b, off, e, h1, h2, h3⟩ := hc hne; ⟨b, off, e, fun hk => h1 (blk_cut hk), h2, h3⟩) fun i x v h1 h2 => ih i x v h1 h2 (hb x (List.mem_of_getElem? h1))
  | iptr x b off vs hvl hb' hlt hc hr ih =>
    intro hb; cases hb with
    | iptr _ hb => exact .iptr x b off vs hvl (fun hk => hb' (blk_cut hk)) hlt hc fun i x v h1 h2 => ih i x v h1 h2 (hb x (List.mem_of_getElem? h1))
  | fn f xs ys vs us hl hl' hr hr' ih ih' =>
    intro hb; cases hb with
    | fn _ _ _ hb hb' => exact .fn f xs ys vs us hl hl' (fun i x v h1 h2 => ih i x v h1 h2 (hb x (List.mem_of_getElem? h1))) (fun i x v h1 h2 => ih' i x v h1 h2 (hb' x (List.mem_of_getElem? h1)))
  | sl o sz off len cap b bo c a hM hlc hcap ha room => intro hb; cases hb with | sl _ _ _ _ _ hb => exact .sl o sz off len cap b bo c a ((eq o hb).trans hM) hlc hcap ha room
  | ptr o sz i k p b bo hM => intro hb; cases hb with | ptr _ _ _ _ _ hb => exact .ptr o sz i k p b bo ((eq o hb).trans hM)
  | mp o b bo hM => intro hb; cases hb with | mp _ hb => exact .mp o b bo ((eq o hb).trans hM)
  | sld o sz off len cap c a hM hlc hcap => intro hb; cases hb with | sl _ _ _ _ _ hb => exact .sld o sz off len cap c a ((eq o hb).trans hM) hlc hcap
  | ptrd o sz i k p a hM => intro hb; cases hb with | ptr _ _ _ _ _ hb => exact .ptrd o sz i k p a ((eq o hb).trans hM)
  | mpd o b hM => intro hb; cases hb with | mp _ hb => exact .mpd o b ((eq o hb).trans hM)

/-! ### what was made is given away: it is written no more -/
inductive Frz (n : Nat) (h : Heap) : AV → AV → Prop
  | pure (x : AV) (hb : RB n x) : Frz n h x x
  | sl (o sz off len : Nat) (cap : Option Nat) (e : TypeId) (xs ys : List AV) (ho : h[o]? = some (some (.arr e sz xs))) (hn : n ≤ o) (hl : off + len ≤ xs.length) (hy : ys.length = len)
      (hu : ∀ y ∈ ys, (flat y).length = sz ∧ storable y = true) (hf : ∀ (i : Nat) x y, xs[off + i]? = some x → ys[i]? = some y → Frz n h x y) : Frz n h (.sl o sz off len cap) (.il sz ys)
  | ptr (o sz i k : Nat) (p : List Nat) (e : TypeId) (xs : List AV) (x y z : AV) (ho : h[o]? = some (some (.arr e sz xs))) (hn : n ≤ o) (hx : xs[i]? = some x) (hs : x.sub p = some y) (hk : x.offs p = some k) (hf : Frz n h y z) : Frz n h (.ptr o sz i k p) (.iptr z)
  | agg (xs ys : List AV) (hl : ys.length = xs.length) (hf : ∀ (i : Nat) x y, xs[i]? = some x → ys[i]? = some y → Frz n h x y) : Frz n h (.agg xs) (.agg ys)
  | nil (sz : Nat) : Frz n h (.val (.slice none 0 0)) (.il sz [])
  | emp (sz : Nat) : Frz n h .emp (.il sz [])

theorem not_blk_cut (hi : Inv M h w) {o b bo : Nat} (hM : M o = .live ⟨b, bo, none⟩) (hn : n ≤ o) : ¬ blk (cut M n) b := by
  rintro ⟨k, a, hk, hb⟩
  unfold cut at hk
  split at hk
  · have := hi.inj k o a _ hk hM hb
    omega
  · cases hk
theorem frz_cr (hi : Inv M h w) {x y} (hf : Frz n h x y) : ∀ vs, CR M w (flat x) vs → CR (cut M n) w (flat y) vs := by
  induction hf with
  | pure x hb =>
    intro vs hv
    refine ⟨hv.1, fun i y v hy hu => vrel_cut (hv.2 i y v hy hu) ?_⟩
    by_cases hx : ∃ xs, x = .agg xs
    · obtain ⟨xs, rfl⟩ := hx
      cases hb with
      | agg _ hb => exact hb y (List.mem_of_getElem? hy)
    · rw [flat_leaf (fun xs e => hx ⟨xs, e⟩)] at hy
      cases i with
      | zero => simp at hy; subst hy; exact hb
      | succ i => simp at hy
  | sl o sz off len cap e xs ys ho hn hl hy hu hf ih =>
    intro vs hv
    obtain ⟨v, rfl⟩ : ∃ v, vs = [v] := by
      have := hv.1
      simp [flat] at this
      exact List.length_eq_one_iff.1 this
    have hvr := hv.2 0 _ v rfl rfl
    refine ⟨by simp [flat], fun i x u hx hu' => ?_⟩
    cases i with
    | succ i => simp [flat] at hx
    | zero =>
      simp [flat] at hx hu'
      subst hx; subst hu'
      cases hvr with
      | sld _ _ _ _ _ c a hM => exact (hi.not_dead ho hM).elim
      | sl _ _ _ _ _ b bo c a hM hlc hcap ha room =>
        obtain ⟨b', bo', heq, hu0, cells, hb, hcells⟩ := hi.live_of ho hM
        cases heq
        have hu1 : ∀ x ∈ xs, (flat x).length = sz := fun x hx => (hu0 x hx).1
        have hsub : flats ((xs.drop off).take len) = ((flats xs).drop (off * sz)).take (len * sz) := by
          rw [flats_take (fun x hx => hu1 x (List.mem_of_mem_drop hx)), flats_drop hu1]
        have hcr : CellsRel M w b (bo + off * sz) (flats ((xs.drop off).take len)) := by
          intro j y hy
          rw [hsub, List.getElem?_take] at hy
          split at hy
          · rw [List.getElem?_drop] at hy
            obtain ⟨v, h3, h4⟩ := hcells _ y hy
            exact ⟨v, by rw [← Nat.add_assoc] at h3; simp [World.cell?, hb, h3], h4⟩
          · cases hy
        obtain ⟨us, hat, hcru⟩ := CR.of_cells hcr
        have hcr2 := CR.list (M' := cut M n) (w := w) (xs := (xs.drop off).take len) (ys := ys) (by simp; omega) (fun i x y hx hy' us hus => by
          rw [List.getElem?_take] at hx
          split at hx
          · rw [List.getElem?_drop] at hx
            exact ih i x y hx hy' us hus
          · cases hx) us hcru
        subst hy
        refine .il sz ys (some a) c us hlc hu hcr2.1 (fun hne => ?_) hcr2.2
        have hpos : 0 < ys.length := List.length_pos_iff.2 hne
        exact ⟨b, bo + off * sz, by rw [ha (by omega)], not_blk_cut hi hM hn, hi.lt _ _ hM, hat⟩
  | ptr o sz i k p e xs x y z ho hn hx hs hk hf ih =>
    intro vs hv
    obtain ⟨v, rfl⟩ : ∃ v, vs = [v] := by
      have := hv.1
      simp [flat] at this
      exact List.length_eq_one_iff.1 this
    have hvr := hv.2 0 _ v rfl rfl
    refine ⟨by simp [flat], fun i' x' u hx' hu' => ?_⟩
    cases i' with
    | succ i' => simp [flat] at hx'
    | zero =>
      simp [flat] at hx' hu'
      subst hx'; subst hu'
      cases hvr with
      | ptrd _ _ _ _ _ a hM => exact (hi.not_dead ho hM).elim
      | ptr _ _ _ _ _ b bo hM =>
        obtain ⟨b', bo', heq, hr⟩ := hi.live_of ho hM
        cases heq
        obtain ⟨hlt, rfl⟩ := List.getElem?_eq_some_iff.1 hx
        obtain ⟨us, hat, hcru⟩ := CR.of_cells (hr.cells hlt hs hk)
        have hcr2 := ih us hcru
        exact .iptr z b _ us hcr2.1 (not_blk_cut hi hM hn) (hi.lt _ _ hM) hat hcr2.2
  | agg xs ys hl hf ih =>
    intro vs hv
    exact CR.list hl (fun i x y hx hy us hus => ih i x y hx hy us hus) vs hv
  | nil sz =>
    intro vs hv
    obtain ⟨v, rfl⟩ : ∃ v, vs = [v] := by
      have := hv.1
      simp [flat] at this
      exact List.length_eq_one_iff.1 this
    have hvr := hv.2 0 _ v (by simp [flat]; rfl) rfl
    refine ⟨by simp [flat], fun i' x' u hx' hu' => ?_⟩
    cases i' with
    | succ i' => simp [flat] at hx'
    | zero =>
      simp [flat] at hx' hu'
      subst hx'; subst hu'
      cases hvr with
      | val => exact .il sz [] none 0 [] (Nat.le_refl _) (by simp) (by simp [flats]) (fun h => absurd rfl h) (by simp)
  | emp sz =>
    intro vs hv
    obtain ⟨v, rfl⟩ : ∃ v, vs = [v] := by
      have := hv.1
      simp [flat] at this
      exact List.length_eq_one_iff.1 this
    have hvr := hv.2 0 _ v (by simp [flat]; rfl) rfl
    refine ⟨by simp [flat], fun i' x' u hx' hu' => ?_⟩
    cases i' with
    | succ i' => simp [flat] at hx'
    | zero =>
      simp [flat] at hx' hu'
      subst hx'; subst hu'
      cases hvr with
      | emp a => exact .il sz [] a 0 [] (Nat.le_refl _) (by simp) (by simp [flats]) (fun h => absurd rfl h) (by simp)
theorem frz_vrel (hi : Inv M h w) {x y} (hf : Frz n h x y) (hx : ∀ xs, x ≠ .tup xs) {v} (hv : VRel M w x v) : VRel (cut M n) w y v := by
  by_cases ha : ∃ xs, x = .agg xs
  · obtain ⟨xs, rfl⟩ := ha
    cases hv with
    | agg _ cs hl hr =>
      have h1 : CR M w (flat (.agg xs)) cs.toList := ⟨by simpa [flat] using hl, fun i x v h1 h2 => hr i x v h1 (by simpa using h2)⟩
      have h2 := frz_cr hi hf _ h1
      cases hf with
      | pure _ hb => exact vrel_cut (.agg xs cs hl hr) hb
      | agg _ ys _ _ => exact .agg ys cs (by simpa [flat] using h2.1) (fun i x v h3 h4 => h2.2 i x v h3 (by simpa using h4))
  · have hfl := flat_leaf (fun xs e => ha ⟨xs, e⟩)
    have h1 : CR M w (flat x) [v] := by rw [hfl]; exact ⟨rfl, fun i y u h1 h2 => by cases i with | zero => simp at h1 h2; subst h1; subst h2; exact hv | succ i => simp at h1⟩
    have h2 := frz_cr hi hf _ h1
    cases hf with
    | pure _ hb => exact vrel_cut hv hb
    | sl => exact h2.2 0 _ v rfl rfl
    | ptr => exact h2.2 0 _ v rfl rfl
    | agg xs => exact absurd ⟨_, rfl⟩ ha
    | nil => exact h2.2 0 _ v (by simp [flat]) rfl
    | emp => exact h2.2 0 _ v (by simp [flat]) rfl
end
end Go.Am

set_option linter.unusedVariables false
namespace Go.Am
open Go

/-- a heap of which some objects are others now, that lead to nothing made since -/
structure HS (n : Nat) (h0 h1 : Heap) : Prop where
  len : h1.length = h0.length
  spec : ∀ (o : Nat) (obj : AObj), h1[o]? = some (some obj) → h0[o]? = some (some obj) ∨ RBo n obj
theorem HS.refl {n : Nat} {h0 : Heap} : HS n h0 h0 := ⟨rfl, fun _ _ h => .inl h⟩
theorem HS.trans {n : Nat} {h0 h1 h2 : Heap} (a : HS n h0 h1) (b : HS n h1 h2) : HS n h0 h2 :=
  ⟨b.len.trans a.len, fun o obj h => (b.spec o obj h).elim (a.spec o obj) .inr⟩
theorem HS.set {n : Nat} {h0 h1 : Heap} (o : Nat) (obj : AObj) (h : HS n h0 h1) (hb : RBo n obj) : HS n h0 (h1.set o (some obj)) := by
  refine ⟨by simpa using h.len, fun k ob hk => ?_⟩
  rw [List.getElem?_set] at hk
  split at hk
  · split at hk
    · cases hk; exact .inr hb
    · cases hk
  · exact h.spec k ob hk
theorem HS.kill {n : Nat} {h0 h1 : Heap} (o : Nat) (h : HS n h0 h1) : HS n h0 (h1.set o none) := by
  refine ⟨by simpa using h.len, fun k ob hk => ?_⟩
  rw [List.getElem?_set] at hk
  split at hk
  · split at hk <;> simp at hk
  · exact h.spec k ob hk

/-- what a frame ends with may be told as something weaker -/
def Wk (h0 : Heap) (r : AV) (h : Heap) (r' : AV) (h' : Heap) : Prop :=
  ∀ M0 w0 M w v, Inv M0 h0 w0 → Inv M h w → Ev M0 w0 M w → (∀ o, o < h0.length → M0 o = .absent → M o = .absent) → VRel M w r v →
    ∃ M', Inv M' h' w ∧ VRel M' w r' v ∧ Ev M0 w0 M' w ∧ (∀ o, o < h0.length → M0 o = .absent → M' o = .absent) ∧ h0.length ≤ h'.length
inductive FrzR (n : Nat) (h : Heap) : AV → AV → Prop
  | one (x y : AV) (hx : ∀ xs, x ≠ .tup xs) (hf : Frz n h x y) : FrzR n h x y
  | tup (xs ys : List AV) (hl : ys.length = xs.length) (hf : ∀ (i : Nat) x y, xs[i]? = some x → ys[i]? = some y → (∀ zs, x ≠ .tup zs) ∧ Frz n h x y) : FrzR n h (.tup xs) (.tup ys)
section
variable {P : Program} {M : MM} {w : World} {n : Nat} {h : Heap}
theorem frzR_vrel (hi : Inv M h w) {x y v} (hf : FrzR n h x y) (hv : VRel M w x v) : VRel (cut M n) w y v := by
  cases hf with
  | one _ _ hx hf => exact frz_vrel hi hf hx hv
  | tup xs ys hl hf =>
    cases hv with
    | tup _ vs hl' hr =>
      refine .tup ys vs (by omega) fun i y v h1 h2 => ?_
      have hlt := (List.getElem?_eq_some_iff.1 h1).1
      have hx : xs[i]? = some (xs[i]'(by omega)) := List.getElem?_eq_getElem _
      obtain ⟨a, b⟩ := hf i _ y hx h1
      exact frz_vrel hi b a (hr i _ v hx h2)
theorem RBo.of_obj {M0 : MM} {w0 : World} {b bo obj} (hM : ∀ o, n ≤ o → M0 o = .absent) (hr : ObjRel M0 w0 b bo obj) : RBo n obj := by
  cases obj with
  | arr e sz xs =>
    obtain ⟨-, cells, -, hc⟩ := hr
    intro x hx
    obtain ⟨i, hi, rfl⟩ := List.mem_iff_getElem.1 hx
    obtain ⟨v, -, hv⟩ := hc i _ (List.getElem?_eq_getElem hi)
    exact rb_of_vrel hM hv
  | map kvs =>
    obtain ⟨es, cl, -, hl, hx⟩ := hr
    intro kv hkv
    obtain ⟨i, hi, rfl⟩ := List.mem_iff_getElem.1 hkv
    obtain ⟨a, b⟩ := hx i _ (es[i]'(by omega)) (List.getElem?_eq_getElem hi) (Array.getElem?_eq_getElem _)
    exact ⟨rb_of_vrel hM a, rb_of_vrel hM b⟩
theorem ObjRel.cut {b bo obj} (hr : ObjRel M w b bo obj) (hb : RBo n obj) : ObjRel (cut M n) w b bo obj := by
  cases obj with
  | arr e sz xs =>
    obtain ⟨hu, cells, h1, hc⟩ := hr
    exact ⟨hu, cells, h1, fun i x hx => let ⟨v, h2, h3⟩ := hc i x hx; ⟨v, h2, vrel_cut h3 (hb x (List.mem_of_getElem? hx))⟩⟩
  | map kvs =>
    obtain ⟨es, cl, h1, hl, hx⟩ := hr
    exact ⟨es, cl, h1, hl, fun i kv e h2 h3 => let ⟨a, b⟩ := hx i kv e h2 h3; ⟨vrel_cut a (hb kv (List.mem_of_getElem? h2)).1, vrel_cut b (hb kv (List.mem_of_getElem? h2)).2⟩⟩
theorem inv_cut {h0 h1 g : Heap} {M0 : MM} {w0 : World} (hi0 : Inv M0 h0 w0) (hi : Inv M (h1 ++ g) w) (hev : Ev M0 w0 M w) (hab : ∀ o, o < h0.length → M0 o = .absent → M o = .absent) (hs : HS h0.length h0 h1) :
    Inv (cut M h0.length) h1 w := by
  have hl := hs.len
  refine { live := fun o obj ho => ?_, dead := fun o ho => ?_, out := fun o ho => ?_, inj := fun o o' a a' h1 h2 hb => ?_, lt := fun o a ho => ?_ }
  · have hlt : o < h1.length := (List.getElem?_eq_some_iff.1 ho).1
    have hc : cut M h0.length o = M o := by simp [cut, show o < h0.length by omega]
    rw [hc]
    rcases hi.live o obj (by rw [List.getElem?_append_left hlt]; exact ho) with h2 | ⟨b, bo, h2, h3⟩
    · exact .inl h2
    · refine .inr ⟨b, bo, h2, h3.cut ?_⟩
      rcases hs.spec o obj ho with h4 | h4
      · rcases hi0.live o obj h4 with h5 | ⟨b', bo', h5, h6⟩
        · have := hab o (by omega) h5
          rw [h2] at this; cases this
        · exact RBo.of_obj hi0.out h6
      · exact h4
  · have hlt : o < h1.length := (List.getElem?_eq_some_iff.1 ho).1
    have hc : cut M h0.length o = M o := by simp [cut, show o < h0.length by omega]
    rw [hc]
    exact hi.dead o (by rw [List.getElem?_append_left hlt]; exact ho)
  · simp [cut, show ¬ o < h0.length by omega]
  · unfold cut at h1 h2
    split at h1 <;> split at h2 <;> first | cases h1 | cases h2 | exact hi.inj o o' a a' h1 h2 hb
  · unfold cut at ho
    split at ho
    · exact hi.lt o a ho
    · cases ho
theorem ev_cut {h0 : Heap} {M0 : MM} {w0 : World} (hi0 : Inv M0 h0 w0) (hev : Ev M0 w0 M w) : Ev M0 w0 (cut M h0.length) w := by
  have lt : ∀ o, M0 o ≠ .absent → o < h0.length := fun o ho => Nat.lt_of_not_le fun hle => ho (hi0.out o hle)
  refine { hev with live := fun o a ho => ?_, dead := fun o ho => ?_, blk := fun b hb => hev.blk b (blk_cut hb) }
  · rw [show cut M h0.length o = M o by simp [cut, lt o (by rw [ho]; simp)]]
    exact hev.live o a ho
  · rw [show cut M h0.length o = M o by simp [cut, lt o (by rw [ho]; simp)]]
    exact hev.dead o ho
/-- all that was made is frozen, or gone -/
theorem Wk.free {h0 h1 g : Heap} {r r' : AV} (hf : FrzR h0.length (h1 ++ g) r r') (hs : HS h0.length h0 h1) : Wk h0 r (h1 ++ g) r' h1 := by
  intro M0 w0 M w v hi0 hi hev hab hv
  refine ⟨cut M h0.length, inv_cut hi0 hi hev hab hs, frzR_vrel hi hf hv, ev_cut hi0 hev, fun o ho h2 => ?_, by rw [hs.len]; exact Nat.le_refl _⟩
  rw [show cut M h0.length o = M o by simp [cut, ho]]
  exact hab o ho h2
end

/-! ### a function's end -/
def resAV : List AV → AV
  | [v] => v
  | vs => .tup vs
def ares (P : Program) (K : AV → Heap → Prop) (tm : List AV) : List ResultVar → List AV → Heap → Prop
  | [], acc, h => K (resAV acc) h
  | .tmp t :: r, acc, h => ares P K tm r (acc ++ [tm.getD t (.tup [])]) h
  | .cell a t :: r, acc, h => aload P t h (fun v h => ares P K tm r (acc ++ [v]) h) (tm.getD a (.tup []))
def kAres (P : Program) (K : AV → Heap → Prop) (tm : List AV) (r : List ResultVar) (acc : List AV) : AV → Heap → Prop := fun v h => ares P K tm r (acc ++ [v]) h
theorem kAres_eq {P K tm r acc v h} : kAres P K tm r acc v h = ares P K tm r (acc ++ [v]) h := nr rfl
theorem ares_nil {P K tm acc h} : ares P K tm [] acc h = K (resAV acc) h := nr rfl
theorem ares_tmp {P K tm t r acc h} : ares P K tm (.tmp t :: r) acc h = ares P K tm r (acc ++ [tm.getD t (.tup [])]) h := nr rfl
theorem ares_cell {P K tm a t r acc h} : ares P K tm (.cell a t :: r) acc h = aload P t h (kAres P K tm r acc) (tm.getD a (.tup [])) := nr rfl
theorem resAV_one {v} : resAV [v] = v := nr rfl
theorem resAV_nil : resAV [] = .tup [] := nr rfl
theorem resAV_two {a b l} : resAV (a :: b :: l) = .tup (a :: b :: l) := nr rfl
def WRet (h0 : Heap) (K : AV → Heap → Prop) (r : AV) (h : Heap) : Prop := ∃ r' h', Wk h0 r h r' h' ∧ K r' h'
def kRet (P : Program) (rs : List ResultVar) (h0 : Heap) (K : AV → Heap → Prop) : Kont := fun e tm h => match e with
  | .normal | .ret => ares P (WRet h0 K) tm rs [] h
  | .exit _ => False
theorem kRet_normal {P rs h0 K tm h} : kRet P rs h0 K .normal tm h = ares P (WRet h0 K) tm rs [] h := nr rfl
theorem kRet_ret {P rs h0 K tm h} : kRet P rs h0 K .ret tm h = ares P (WRet h0 K) tm rs [] h := nr rfl

section
variable {P : Program} {M : MM} {w : World} {n : Nat} {h : Heap}
def resOne (tmps : Array Value) : ResultVar → Sem Value
  | .tmp t => pure (tmps.getD t undef)
  | .cell a t => do loadVar t (← asAddr (tmps.getD a undef))
theorem results_eq (fn : Func) (tmps : Array Value) : results fn tmps = (do let vs ← fn.results.mapM (resOne tmps); pure (if h : vs.size = 1 then vs[0] else .tuple vs)) := by
  unfold results
  congr 1
theorem aload_ptr {K : AV → Heap → Prop} {t x v} (hk : aload P t h K x) (hx : VRel M w x v) : ∃ ad, v = .pointer (some ad) := by
  unfold aload at hk
  split at hk
  · cases hx; exact ⟨_, rfl⟩
  · cases hx <;> exact ⟨_, rfl⟩
  · exact hk.elim
theorem ares_sound {K : AV → Heap → Prop} {tm : List AV} {tmps : Array Value} (hi : Inv M h w) (ht : Tmps M w tm tmps) (rs : List ResultVar) : ∀ (acc : List AV) (vs : List Value), vs.length = acc.length → (∀ (i : Nat) x v, acc[i]? = some x → vs[i]? = some v → VRel M w x v) → ares P K tm rs acc h →
    ∃ acc' us, (rs.mapM (resOne tmps)).run P w = .ok us w ∧ (vs ++ us).length = acc'.length ∧ (∀ (i : Nat) x v, acc'[i]? = some x → (vs ++ us)[i]? = some v → VRel M w x v) ∧ K (resAV acc') h := by
  induction rs with
  | nil => intro acc vs hl hr hk; exact ⟨acc, [], by simp, by simpa using hl, by simpa using hr, hk⟩
  | cons r rs ih =>
    intro acc vs hl hr hk
    have ext : ∀ x v, VRel M w x v → ares P K tm rs (acc ++ [x]) h → (resOne tmps r).run P w = .ok v w →
        ∃ acc' us, ((r :: rs).mapM (resOne tmps)).run P w = .ok us w ∧ (vs ++ us).length = acc'.length ∧ (∀ (i : Nat) x v, acc'[i]? = some x → (vs ++ us)[i]? = some v → VRel M w x v) ∧ K (resAV acc') h := by
      intro x v hx hk hrun
      obtain ⟨acc', us, h1, h2, h3, h4⟩ := ih (acc ++ [x]) (vs ++ [v]) (by simp [hl]) (fun i y u hy hu => by
        by_cases hlt : i < acc.length
        · rw [List.getElem?_append_left hlt] at hy
          rw [List.getElem?_append_left (by omega)] at hu
          exact hr i y u hy hu
        · rw [List.getElem?_append_right (by omega)] at hy
          rw [List.getElem?_append_right (by omega), hl] at hu
          cases hj : i - acc.length with
          | zero => simp [hj] at hy hu; subst hy; subst hu; exact hx
          | succ j => simp [hj] at hy) hk
      refine ⟨acc', v :: us, ?_, by simpa using h2, by simpa using h3, h4⟩
      rw [List.mapM_cons]
      simp only [Sem.run_bind, hrun, Result.andThen_ok, h1, Sem.run_pure]
    cases r with
    | tmp t => exact ext _ _ (ht.get t) hk rfl
    | cell a t =>
      have hx := ht.get a
      simp only [ares] at hk
      obtain ⟨y, cv, h1, h2, h3⟩ := aload_sound (P := P) (t := t) hk hi hx
      obtain ⟨ad, he⟩ := aload_ptr hk hx
      refine ext y cv h3 h2 ?_
      rw [he] at h1
      simp only [resOne]
      rw [he]
      simpa [asAddr, Instr.loadAt, Instr.sureAddr] using h1
theorem RunsK.intro {f : FuncId} {fn : Func} {c : Code} {args : List AV} {K : AV → Heap → Prop} (hf : P.funcs[f]? = some fn) (hb : fn.body = some c) (hn : (fn.name == "runtime.NumGoroutine") = false) (hlen : args.length ≤ fn.ntmps)
    (hk : aw P c (args ++ List.replicate (fn.ntmps - args.length) (.tup [])) h (kRet P fn.results.toList h K)) : RunsK P f args h K := by
  refine ⟨⟨fn, hf, by simp [hb], hn⟩, fun M w cargs hi ht => ?_⟩
  refine calls_of_wp hf hb ?_
  have htm : Tmps M w (args ++ List.replicate (fn.ntmps - args.length) (.tup [])) (cargs ++ Array.replicate (fn.ntmps - cargs.size) undef) := by
    rw [ht.1]
    refine ht.append ⟨by simp, fun i x v h1 h2 => ?_⟩
    have e1 := (List.mem_replicate.1 (List.mem_of_getElem? h1)).2
    have e2 : v = undef := by
      rw [Array.getElem?_replicate] at h2
      split at h2
      · exact (Option.some.inj h2).symm
      · cases h2
    subst e1; subst e2
    exact vrel_undef
  have hrl : Rl M w h.length _ (args ++ List.replicate (fn.ntmps - args.length) (.tup [])) h M { tmps := cargs ++ Array.replicate (fn.ntmps - cargs.size) undef, defers := [] } w :=
    ⟨hi, htm, rfl, Ev.refl _ _, fun _ _ ho => ho, Nat.le_refl _, rfl⟩
  refine wp_mono (aw_sound c hk hrl) fun e act w' hp => ?_
  obtain ⟨e', tm', h', M', rfl, k1, k2⟩ := hp
  have fin : ares P (WRet h K) tm' fn.results.toList [] h' → act.defers = [] ∧ ∃ v, (results fn act.tmps).run P w' = .ok v w' ∧ ∃ u, Ending.returned v = .returned u ∧ Post M w h.length K u w' := by
    intro k1
    obtain ⟨acc', us, r1, r2, r3, r', h'', r4, r5⟩ := ares_sound k2.inv k2.tmps fn.results.toList [] [] rfl (by simp) k1
    have hres : (results fn act.tmps).run P w' = .ok (if h : us.length = 1 then us[0] else .tuple us.toArray) w' := by
      rw [results_eq, Array.mapM_eq_mapM_toList]
      simp only [Sem.run_bind, Sem.run_map, r1, Result.andThen_ok, Sem.run_pure]
      simp
    refine ⟨k2.defers, _, hres, _, rfl, ?_⟩
    have hv : VRel M' w' (resAV acc') (if h : us.length = 1 then us[0] else .tuple us.toArray) := by
      simp only [List.nil_append] at r2 r3
      by_cases h1 : us.length = 1
      · rw [dif_pos h1]
        obtain ⟨u, rfl⟩ := List.length_eq_one_iff.1 h1
        obtain ⟨x, rfl⟩ := List.length_eq_one_iff.1 (by rw [← r2]; rfl)
        exact r3 0 x u rfl rfl
      · rw [dif_neg h1]
        have : resAV acc' = .tup acc' := by
          match acc', r2 with
          | [], _ => rfl
          | [x], r2 => exact absurd r2 h1
          | x :: y :: l, _ => rfl
        rw [this]
        exact .tup acc' us.toArray (by simpa using r2) (fun i x v a b => r3 i x v a (by simpa using b))
    obtain ⟨M2, q1, q2, q3, q4, q5⟩ := r4 M w M' w' _ hi k2.inv k2.ev k2.abs hv
    exact ⟨r', h'', M2, r5, q1, q2, q3, q4, q5⟩
  cases e' with
  | normal => exact fin k1
  | ret => exact fin k1
  | exit id => exact k1.elim
end
end Go.Am

set_option linter.unusedVariables false
namespace Go.Am
open Go
section
variable {P : Program} {M : MM} {w : World} {h : Heap} {n : Nat} {o : Oper} {act : Act} {next : Act → World → Prop} {Q : Exit → Act → World → Prop}
/-! ### what is made later than it is told -/
theorem Ev.late (hi : Inv M h w) (hM : M n = .absent) (ob : Obj) : Ev M w (M.with n (.live ⟨w.heap.size, 0, none⟩)) (w.alloc ob) where
  size := by rw [alloc_size]; omega
  same b hb _ := alloc_get w ob b hb
  live k a hk := by
    left
    have : k ≠ n := by
      rintro rfl
      rw [hM] at hk; cases hk
    simp [MM.with, this, hk]
  dead k hk := by
    have : k ≠ n := by
      rintro rfl
      rw [hM] at hk; cases hk
    simp [MM.with, this, hk]
  blk b hb := by
    obtain ⟨k, a, hk, rfl⟩ := hb
    unfold MM.with at hk
    split at hk
    · cases hk; exact .inr (Nat.le_refl _)
    · exact .inl ⟨k, a, hk, rfl⟩
  shape b cells e fz hb hc := ⟨cells, by rw [alloc_get w ob b hb]; exact hc, rfl⟩
  os := rfl
  tape := rfl
  output := rfl
theorem Inv.late (hi : Inv M h w) (hM : M n = .absent) (ob : Obj) {obj : AObj} (hn : h[n]? = some (some obj)) (hr : ObjRel (M.with n (.live ⟨w.heap.size, 0, none⟩)) (w.alloc ob) w.heap.size 0 obj) :
    Inv (M.with n (.live ⟨w.heap.size, 0, none⟩)) h (w.alloc ob) where
  live k ob2 hk := by
    by_cases e : k = n
    · subst e
      rw [hn] at hk
      cases hk
      exact .inr ⟨_, _, by simp [MM.with], hr⟩
    · rcases hi.live k ob2 hk with h1 | ⟨b, bo, h1, h2⟩
      · exact .inl (by simp [MM.with, e, h1])
      · exact .inr ⟨b, bo, by simp [MM.with, e, h1], h2.ev (Ev.late hi hM ob) (alloc_get w ob b (hi.lt _ _ h1))⟩
  dead k hk := by
    by_cases e : k = n
    · subst e; rw [hn] at hk; cases hk
    · have := hi.dead k hk; simpa [MM.with, e] using this
  out k hk := by
    have : k ≠ n := by
      have := (List.getElem?_eq_some_iff.1 hn).1
      omega
    simp [MM.with, this]
    exact hi.out k hk
  inj k k' a a' h1 h2 hb := by
    unfold MM.with at h1 h2
    split at h1 <;> split at h2
    · omega
    · cases h1
      have := hi.lt _ _ h2
      simp at hb; omega
    · cases h2
      have := hi.lt _ _ h1
      simp at hb; omega
    · exact hi.inj _ _ _ _ h1 h2 hb
  lt k a hk := by
    unfold MM.with at hk
    split at hk
    · cases hk; rw [alloc_size]; simp
    · have := hi.lt _ _ hk
      rw [alloc_size]; omega
/-- an allocation whose object is told already -/
theorem alloc_late {e : TypeId} {z : AV} (hop : o.op = .alloc e) (hz : zAV P e = some z) (hi : Inv M h w) (hM : M n = .absent) (hn : h[n]? = some (some (.arr e (flat z).length [z])))
    (hnx : ∀ cv w', Inv (M.with n (.live ⟨w.heap.size, 0, none⟩)) h w' → Ev M w (M.with n (.live ⟨w.heap.size, 0, none⟩)) w' → VRel (M.with n (.live ⟨w.heap.size, 0, none⟩)) w' (.ptr n (flat z).length 0 0 []) cv → next (act.put o.dst cv) w') : o.wp P act w next Q := by
  obtain ⟨i, zv, h1, h2, h3, h4, h5, h6⟩ := zAV_spec hz
  obtain ⟨dst, op, type, pos, after, guard⟩ := o
  simp only at hop
  subst hop
  have hr : (Instr.alloc e true (.tuple #[])).run P w = .ok (.pointer (some ⟨w.heap.size, 0, none⟩)) (w.alloc (.cells zv.cells e)) := by
    simp [Instr.alloc, zeroValue, typeInfo, h1, h2, newVar, newRow]
  have hfl : flats [z] = flat z := by simp [flats]
  have hob : ObjRel (M.with n (.live ⟨w.heap.size, 0, none⟩)) (w.alloc (.cells zv.cells e)) w.heap.size 0 (.arr e (flat z).length [z]) := by
    refine ⟨fun y hy => by simp at hy; subst hy; exact ⟨rfl, h5⟩, zv.cells, alloc_new w _, fun j y hy => ?_⟩
    rw [hfl] at hy
    have hlt : j < zv.cells.size := by rw [← h4]; exact (List.getElem?_eq_some_iff.1 hy).1
    exact ⟨zv.cells[j], by simp [hlt], h6 _ _ j y _ hy (Array.getElem?_eq_getElem hlt)⟩
  have hv : VRel (M.with n (.live ⟨w.heap.size, 0, none⟩)) (w.alloc (.cells zv.cells e)) (.ptr n (flat z).length 0 0 []) (.pointer (some ⟨w.heap.size, 0, none⟩)) := by
    have := VRel.ptr (M := M.with n (.live ⟨w.heap.size, 0, none⟩)) (w := w.alloc (.cells zv.cells e)) n (flat z).length 0 0 [] w.heap.size 0 (by simp [MM.with])
    simpa using this
  have hx := hnx _ _ (hi.late hM _ hn hob) (Ev.late hi hM _) hv
  have he : execOp act.eval { dst, op := .alloc e, type, pos, after, guard } = (do pure (.value (← Instr.alloc e true (.tuple #[])))) := rfl
  unfold Oper.wp
  rw [he]
  simp only [Sem.run_bind, hr, Result.andThen_ok, Sem.run_pure]
  exact hx
end
end Go.Am
