/- A part of the proof that AliasThings and AliasMeets return true for every module: texts on an abstract reading of the code (AmS12, AmFz0, AmCode, AmFz). -/
import Derived.Test.YtdmaniffgdpfeaaXAmS11
import Derived.Orders
set_option linter.unusedVariables false
set_option linter.unusedSimpArgs false
set_option linter.unusedSectionVars false
set_option linter.unusedVariables false
namespace Go.Am
open Go
section
variable {P : Program} {o : Oper} {tm : List AV} {h : Heap} {K : AV → Heap → Prop} {M : MM} {w : World} {act : Act} {next : Act → World → Prop} {Q : Exit → Act → World → Prop}

theorem wp_sem {z cz} {s : Sem Value} (he : execOp act.eval o = (do pure (.value (← s)))) (hi : Inv M h w) (hn : ∀ cv w', Post M w h.length K cv w' → next (act.put o.dst cv) w') (hr : s.run P w = .ok cz w) (hk : K z h) (hv : VRel M w z cz) : o.wp P act w next Q :=
  wp_pure hi hn (by rw [he]; simp [hr]) hk hv
theorem wp_sem' {cz w'} {s : Sem Value} (he : execOp act.eval o = (do pure (.value (← s)))) (hn : ∀ cv w', Post M w h.length K cv w' → next (act.put o.dst cv) w') (hr : s.run P w = .ok cz w') (hp : Post M w h.length K cz w') : o.wp P act w next Q :=
  wp_value hn (by rw [he]; simp [hr]) hp
theorem args_rel (ht : Tmps M w tm act.tmps) (as : List Operand) : Tmps M w (as.map (rho tm)) (as.map act.eval).toArray := by
  refine ⟨by simp, fun i x v h1 h2 => ?_⟩
  rw [List.getElem?_map] at h1
  rw [List.getElem?_toArray, List.getElem?_map] at h2
  cases hq : as[i]? with
  | none => simp [hq] at h1
  | some q => simp [hq] at h1 h2; subst h1; subst h2; exact rho_rel ht q
theorem args_rel' (ht : Tmps M w tm act.tmps) (as : Array Operand) : Tmps M w (as.toList.map (rho tm)) (as.map act.eval) := by
  have := args_rel ht as.toList
  rwa [show (as.toList.map act.eval).toArray = as.map act.eval by apply Array.ext'; simp] at this
theorem Tmps.append {xs ys : List AV} {vs us : Array Value} (h1 : Tmps M w xs vs) (h2 : Tmps M w ys us) : Tmps M w (xs ++ ys) (vs ++ us) := by
  refine ⟨by simp [h1.1, h2.1], fun i x v a b => ?_⟩
  by_cases hlt : i < xs.length
  · rw [List.getElem?_append_left hlt] at a
    rw [Array.getElem?_append_left (by rw [h1.1]; exact hlt)] at b
    exact h1.2 i x v a b
  · rw [List.getElem?_append_right (by omega)] at a
    rw [Array.getElem?_append_right (by rw [h1.1]; omega), h1.1] at b
    exact h2.2 _ x v a b
theorem acall_sound {args : List AV} {cargs : Array Value} {x : AV} {cx : Value} (hk : acall P h args K x) (hi : Inv M h w) (ha : Tmps M w args cargs) (hx : VRel M w x cx) :
    ∃ g cas, (do let d ← Deferred.ofValue cx cargs; invoke d.target d.args : Sem Next).run P w = .ok (.enter g cas) w ∧ Calls P g cas w fun e w' => ∃ v, e = .returned v ∧ Post M w h.length K v w' := by
  unfold acall at hk
  split at hk
  · rename_i g first cap
    cases hx with
    | fn _ _ _ vs us hl hl' hr hr' =>
      obtain ⟨⟨fn, hf, hb, hnm⟩, hk⟩ := hk
      refine ⟨g, vs ++ cargs ++ us, ?_, hk M w _ hi (Tmps.append (Tmps.append ⟨hl, hr⟩ ha) ⟨hl', hr'⟩)⟩
      have hnm' : ¬ fn.name = "runtime.NumGoroutine" := by simpa using hnm
      cases hbd : fn.body with
      | none => simp [hbd] at hb
      | some c => simp [Deferred.ofValue, invoke, callFunc, hf, hbd, hnm']
  · exact hk.elim

theorem aop_sound (hk : aop P o tm h K) (hi : Inv M h w) (ht : Tmps M w tm act.tmps) (hn : ∀ cv w', Post M w h.length K cv w' → next (act.put o.dst cv) w') : o.wp P act w next Q := by
  obtain ⟨dst, op, type, pos, after, guard⟩ := o
  cases op
  case move x => exact wp_pure hi hn rfl hk (rho_rel ht x)
  case assign x => exact wp_pure hi hn rfl hk (rho_rel ht x)
  case pick c a b =>
    have hc := rho_rel ht c
    simp only [aop, apick] at hk
    split at hk
    · rename_i t hct
      rw [hct] at hc
      have hcv := vrel_bool hc
      cases t
      · exact wp_pure hi hn (by simp [execOp, hcv, asBool]) (hk.2 rfl) (rho_rel ht b)
      · exact wp_pure hi hn (by simp [execOp, hcv, asBool]) (hk.1 rfl) (rho_rel ht a)
    · exact hk.elim
  case fieldAddr s x f =>
    obtain ⟨y, cv, h1, h2, h3⟩ := afield_sound (P := P) (s := s) (f := f) hk hi (rho_rel ht x)
    exact wp_sem rfl hi hn h1 h2 h3
  case indexAddr t x i =>
    obtain ⟨y, cv, h1, h2, h3⟩ := aindex_sound (P := P) (t := t) hk hi (rho_rel ht x) (rho_rel ht i)
    exact wp_sem rfl hi hn h1 h2 h3
  case load t x =>
    obtain ⟨y, cv, h1, h2, h3⟩ := aload_sound (P := P) (t := t) hk hi (rho_rel ht x)
    exact wp_sem rfl hi hn h1 h2 h3
  case store t x v =>
    obtain ⟨w', h1, h2⟩ := astore_sound (P := P) (t := t) hk hi (rho_rel ht x) (rho_rel ht v)
    have hr : (execOp act.eval ⟨dst, .store t x v, type, pos, after, guard⟩).run P w = .ok .skip w' := by simp [execOp, h1]
    unfold Oper.wp
    rw [hr, Oper.upon_skip]
    exact hn _ _ h2
  case binOp op t x y u =>
    obtain ⟨y, cv, h1, h2, h3⟩ := abin_sound (P := P) (t := t) (ox := x) (oy := y) hk (rho_rel ht x) (rho_rel ht y)
    exact wp_sem rfl hi hn h1 h2 h3
  case unOp op t x =>
    have hx := rho_rel ht x
    cases op
    case not =>
      simp only [aop, anot] at hk
      split at hk
      · rename_i b hb
        rw [hb] at hx
        exact wp_sem rfl hi hn (by rw [vrel_bool hx]; rfl) hk vrel_of_bool
      · exact hk.elim
    case neg =>
      simp only [aop, aneg] at hk
      split at hk
      · rename_i k b hb
        rw [hb] at hx
        exact wp_sem rfl hi hn (by rw [vrel_int hx]; rfl) hk vrel_of_int
      · exact hk.elim
    all_goals exact hk.elim
  case convert src dst x =>
    obtain ⟨y, cv, h1, h2, h3⟩ := aconv_sound (P := P) hk (rho_rel ht x)
    exact wp_sem rfl hi hn h1 h2 h3
  case nilCheck x =>
    have hx := rho_rel ht x
    simp only [aop, anil] at hk
    split at hk
    · rename_i hq
      refine wp_pure hi hn ?_ hk hx
      rw [hq] at hx
      generalize hcx : act.eval x = cx at hx ⊢
      cases hx <;> simp [execOp, hcx]
    · rename_i hq
      refine wp_pure hi hn ?_ hk hx
      rw [hq] at hx
      generalize hcx : act.eval x = cx at hx ⊢
      cases hx <;> simp [execOp, hcx]
    · rename_i hq
      refine wp_pure hi hn ?_ hk hx
      rw [hq] at hx
      generalize hcx : act.eval x = cx at hx ⊢
      cases hx <;> simp [execOp, hcx]
    · exact hk.elim
  case box e x =>
    obtain ⟨cv, w', h1, h2⟩ := abox_sound (P := P) (e := e) hk hi (rho_rel ht x)
    exact wp_sem' rfl hn h1 h2
  case alloc e =>
    obtain ⟨cv, w', h1, h2⟩ := aalloc_sound (P := P) (e := e) hk hi
    exact wp_sem' rfl hn h1 h2
  case build t ps =>
    obtain ⟨y, cv, h1, h2, h3⟩ := abuild_sound (P := P) (act := act) ht hk
    exact wp_sem rfl hi hn h1 h2 h3
  case buildSlice t len ps =>
    obtain ⟨cv, w', h1, h2⟩ := abuildSlice_sound (P := P) (act := act) hi ht hk
    exact wp_sem' rfl hn h1 h2
  case makeSlice t l c =>
    obtain ⟨cv, w', h1, h2⟩ := amake_sound (P := P) (t := t) hk hi (rho_rel ht l) (rho_rel ht c)
    exact wp_sem' rfl hn h1 h2
  case slice t x lo hi' mx =>
    obtain ⟨y, cv, h1, h2, h3⟩ := aslice_sound (P := P) (act := act) ht hk (rho_rel ht x)
    exact wp_sem rfl hi hn h1 h2 h3
  case makeFunc f first cap =>
    have h1 := args_rel ht first.toList
    have h2 := args_rel ht cap.toList
    refine wp_sem rfl hi hn (cz := .func f (first.map act.eval) (cap.map act.eval)) (by simp [Instr.makeFunc]) hk ?_
    exact .fn f _ _ _ _ (by simp) (by simp) (fun i x v a b => h1.2 i x v a (by simpa using b)) (fun i x v a b => h2.2 i x v a (by simpa using b))
  case extract x i =>
    have hx := rho_rel ht x
    simp only [aop, aext] at hk
    split at hk
    · rename_i xs hxs
      rw [hxs] at hx
      split at hk
      · rename_i y hy
        generalize hcx : act.eval x = cx at hx
        cases hx with
        | tup _ vs hl hr =>
          have hlt : i < vs.size := by rw [hl]; exact (List.getElem?_eq_some_iff.1 hy).1
          exact wp_sem rfl hi hn (cz := vs[i]) (by rw [hcx]; simp [Instr.extract, hlt]) hk (hr i y _ hy (Array.getElem?_eq_getElem hlt))
      · exact hk.elim
    · exact hk.elim
  case call c =>
    obtain ⟨callee, args, ats⟩ := c
    cases callee
    case builtin b =>
      have hargs := args_rel' ht args
      have hexec : execOp act.eval ⟨dst, .call { callee := .builtin b, args, argTypes := ats }, type, pos, after, guard⟩ = builtin b ats type (args.map fun | .const _ => true | _ => false) (args.map act.eval) := rfl
      simp only [aop, abuiltin] at hk
      split at hk
      · rename_i x hax
        split at hk
        · rename_i t hts
          obtain ⟨hs, hk⟩ := hk
          rw [hax] at hargs
          obtain ⟨cx, hcx⟩ : ∃ cx, args.map act.eval = #[cx] := by
            have h1 := hargs.1
            simp at h1
            refine ⟨(args.map act.eval)[0]'(by simp [h1]), ?_⟩
            apply Array.ext
            · simp [h1]
            · intro i h2 h3
              have : i = 0 := by simp at h3; omega
              subst this; rfl
          have hx : VRel M w x cx := hargs.2 0 x cx rfl (by rw [hcx]; rfl)
          have hat : ats = #[t] := by apply Array.ext'; simpa using hts
          subst hat
          obtain ⟨y, cv, h1, h2, h3⟩ := alen_sound (P := P) (ty := type) hs hk hx
          exact wp_sem (by rw [hexec, hcx]; rfl) hi hn h1 h2 h3
        · exact hk.elim
      · rename_i x hax
        split at hk
        · rename_i t hts
          obtain ⟨hs, hk⟩ := hk
          rw [hax] at hargs
          obtain ⟨cx, hcx⟩ : ∃ cx, args.map act.eval = #[cx] := by
            have h1 := hargs.1
            simp at h1
            refine ⟨(args.map act.eval)[0]'(by simp [h1]), ?_⟩
            apply Array.ext
            · simp [h1]
            · intro i h2 h3
              have : i = 0 := by simp at h3; omega
              subst this; rfl
          have hx : VRel M w x cx := hargs.2 0 x cx rfl (by rw [hcx]; rfl)
          have hat : ats = #[t] := by apply Array.ext'; simpa using hts
          subst hat
          obtain ⟨y, cv, h1, h2, h3⟩ := acap_sound (P := P) (ty := type) hs hk hx
          exact wp_sem (by rw [hexec, hcx]; rfl) hi hn h1 h2 h3
        · exact hk.elim
      · rename_i s x hax
        rw [hax] at hargs
        obtain ⟨cs, cx, hcx⟩ : ∃ cs cx, args.map act.eval = #[cs, cx] := by
          have h1 := hargs.1
          simp at h1
          refine ⟨(args.map act.eval)[0]'(by simp [h1]), (args.map act.eval)[1]'(by simp [h1]), ?_⟩
          apply Array.ext
          · simp [h1]
          · intro i h2 h3
            have : i = 0 ∨ i = 1 := by simp at h3; omega
            rcases this with rfl | rfl <;> rfl
        have hs : VRel M w s cs := hargs.2 0 s cs rfl (by rw [hcx]; rfl)
        have hx : VRel M w x cx := hargs.2 1 x cx rfl (by rw [hcx]; rfl)
        obtain ⟨cv, w', h1, h2⟩ := aapp_sound (P := P) (ty := type) hk hi hs hx
        exact wp_sem' (by rw [hexec, hcx]; rfl) hn (by simpa using h1) h2
      · exact hk.elim
    case value f =>
      obtain ⟨g, cas, h1, h2⟩ := acall_sound (P := P) (cargs := args.map act.eval) hk hi (args_rel' ht args) (rho_rel ht f)
      have hr : (execOp act.eval ⟨dst, .call { callee := .value f, args, argTypes := ats }, type, pos, after, guard⟩).run P w = .ok (.enter g cas) w := h1
      unfold Oper.wp
      rw [hr, Oper.upon_enter]
      refine h2.mono fun e w' ⟨v, he, hp⟩ => ?_
      subst he
      exact hn _ _ hp
    case invoke => exact hk.elim
  all_goals exact hk.elim
end
end Go.Am

namespace Go.Am
open Go
/-- some of what was made is written no more -/
inductive FrzS (S : Nat → Prop) (h : Heap) : AV → AV → Prop
  | pure (x : AV) : FrzS S h x x
  | sl (o sz off len : Nat) (cap : Option Nat) (e : TypeId) (xs ys : List AV) (ho : h[o]? = some (some (.arr e sz xs))) (hS : S o) (hl : off + len ≤ xs.length) (hy : ys.length = len)
      (hu : ∀ y ∈ ys, (flat y).length = sz ∧ storable y = true) (hf : ∀ (i : Nat) x y, xs[off + i]? = some x → ys[i]? = some y → FrzS S h x y) : FrzS S h (.sl o sz off len cap) (.il sz ys)
  | ptr (o sz i k : Nat) (p : List Nat) (e : TypeId) (xs : List AV) (x y z : AV) (ho : h[o]? = some (some (.arr e sz xs))) (hS : S o) (hx : xs[i]? = some x) (hs : x.sub p = some y) (hk : x.offs p = some k) (hf : FrzS S h y z) : FrzS S h (.ptr o sz i k p) (.iptr z)
  | agg (xs ys : List AV) (hl : ys.length = xs.length) (hf : ∀ (i : Nat) x y, xs[i]? = some x → ys[i]? = some y → FrzS S h x y) : FrzS S h (.agg xs) (.agg ys)
  | nil (sz : Nat) : FrzS S h (.val (.slice none 0 0)) (.il sz [])
  | emp (sz : Nat) : FrzS S h .emp (.il sz [])
inductive FrzSL (S : Nat → Prop) (h : Heap) : List AV → List AV → Prop
  | nil : FrzSL S h [] []
  | cons {x y xs ys} (hx : FrzS S h x y) (hs : FrzSL S h xs ys) : FrzSL S h (x :: xs) (y :: ys)
inductive FrzO (S : Nat → Prop) (h : Heap) : AObj → AObj → Prop
  | same (ob : AObj) : FrzO S h ob ob
  | arr (e sz : Nat) (xs ys : List AV) (hl : ys.length = xs.length) (hu : ∀ y ∈ ys, (flat y).length = sz ∧ storable y = true) (hf : FrzSL S h xs ys) : FrzO S h (.arr e sz xs) (.arr e sz ys)
structure FrzH (S : Nat → Prop) (h h' : Heap) : Prop where
  len : h'.length = h.length
  gone : ∀ o : Nat, S o → ∀ ob : AObj, h'[o]? ≠ some (some ob)
  obj : ∀ (o : Nat) (ob' : AObj), h'[o]? = some (some ob') → ∃ ob : AObj, h[o]? = some (some ob) ∧ FrzO S h ob ob'
  none : ∀ o : Nat, ¬ S o → h'[o]? = some none → h[o]? = some none
/-- as an invariant has it, once some is written no more -/
def FzV (J : List AV → Heap → Prop) (vs : List AV) (h : Heap) : Prop := ∃ S vs' h', FrzSL S h vs vs' ∧ FrzH S h h' ∧ J vs' h'
end Go.Am

set_option linter.unusedVariables false
namespace Go.Am
open Go

def dstOf (o : Oper) : Option Tmp := o.dst
theorem dstOf_eq {dst op type pos after guard} : dstOf { dst, op, type, pos, after, guard } = dst := nr rfl
def gTmp : Option Oper → Option Tmp
  | some o => dstOf o
  | none => none
theorem gTmp_some {o} : gTmp (some o) = dstOf o := nr rfl
def guardTmp (ops : List Oper) (j : Nat) : Option Tmp := gTmp (ops[j]?)
theorem guardTmp_eq {ops j} : guardTmp ops j = gTmp (ops[j]?) := nr rfl

/-- a guard's outcome -/
def agd (want : Bool) (run skip1 skip2 : Unit → Prop) : AV → Prop
  | .val (.bool b) => AIf (b == want) run skip1
  | .tup [] => skip2 ()
  | _ => False
theorem agd_bool {want r s1 s2 b} : agd want r s1 s2 (.val (.bool b)) = AIf (b == want) r s1 := nr rfl
theorem agd_undef {want r s1 s2} : agd want r s1 s2 (.tup []) = s2 () := nr rfl

abbrev KO := List AV → Heap → Prop
/-- operations in the order of the text -/
def aops (P : Program) (ops : List Oper) : List Oper → List AV → Heap → KO → Prop
  | [], tm, h, K => K tm h
  | o :: rest, tm, h, K =>
    match o.guard with
    | none => aop P o tm h fun v h' => aops P ops rest (put tm o.dst v) h' K
    | some (j, want) => match guardTmp ops j with
      | none => False
      | some d => agd want (fun _ => aop P o (tm.set d (.val (.bool want))) h fun v h' => aops P ops rest (put (tm.set d (.val (.bool want))) o.dst v) h' K)
           (fun _ => aops P ops rest (put (tm.set d (.val (.bool !want))) o.dst (.tup [])) h K)
           (fun _ => aops P ops rest (put tm o.dst (.tup [])) h K) (tm.getD d (.tup []))
def kOp (P : Program) (ops rest : List Oper) (tm : List AV) (dst : Option Tmp) (K : KO) : AV → Heap → Prop := fun v h => aops P ops rest (put tm dst v) h K
theorem kOp_eq {P ops rest tm dst K v h} : kOp P ops rest tm dst K v h = aops P ops rest (put tm dst v) h K := nr rfl
theorem aops_nil {P ops tm h K} : aops P ops [] tm h K = K tm h := by simp [aops]
theorem aops_plain {P ops rest tm h K dst op type pos after} : aops P ops ({ dst, op, type, pos, after, guard := none } :: rest) tm h K = aop P { dst, op, type, pos, after, guard := none } tm h (kOp P ops rest tm dst K) := by
  simp [aops]; rfl
def tRun (P : Program) (ops rest : List Oper) (o : Oper) (tm : List AV) (h : Heap) (K : KO) : Unit → Prop := fun _ => aop P o tm h (kOp P ops rest tm o.dst K)
def tSkip (P : Program) (ops rest : List Oper) (tm : List AV) (dst : Option Tmp) (h : Heap) (K : KO) : Unit → Prop := fun _ => aops P ops rest (put tm dst (.tup [])) h K
theorem tRun_eq {P ops rest tm h K dst op type pos after guard} : tRun P ops rest { dst, op, type, pos, after, guard } tm h K () = aop P { dst, op, type, pos, after, guard } tm h (kOp P ops rest tm dst K) := nr rfl
theorem tSkip_eq {P ops rest tm dst h K} : tSkip P ops rest tm dst h K () = aops P ops rest (put tm dst (.tup [])) h K := nr rfl
def agd0 (P : Program) (ops rest : List Oper) (o : Oper) (tm : List AV) (h : Heap) (K : KO) (want : Bool) : Option Tmp → Prop
  | none => False
  | some d => agd want (tRun P ops rest o (tm.set d (.val (.bool want))) h K) (tSkip P ops rest (tm.set d (.val (.bool !want))) o.dst h K) (tSkip P ops rest tm o.dst h K) (tm.getD d (.tup []))
theorem agd0_some {P ops rest tm h K dst op type pos after guard want d} : agd0 P ops rest { dst, op, type, pos, after, guard } tm h K want (some d) = agd want (tRun P ops rest { dst, op, type, pos, after, guard } (tm.set d (.val (.bool want))) h K) (tSkip P ops rest (tm.set d (.val (.bool !want))) dst h K) (tSkip P ops rest tm dst h K) (tm.getD d (.tup [])) := nr rfl
theorem aops_guard {P ops rest tm h K dst op type pos after j want} : aops P ops ({ dst, op, type, pos, after, guard := some (j, want) } :: rest) tm h K =
    agd0 P ops rest { dst, op, type, pos, after, guard := some (j, want) } tm h K want (guardTmp ops j) := by
  conv => lhs; unfold aops
  simp only [agd0]
  rfl

/-! ### regions whose order is drawn -/
inductive Stp where
  | q (i : Nat)
  | c (i : Nat) (re : List Nat)
abbrev Pend := List (Nat × TypeId × AV × AV)
def pendOf (i : Nat) (o : Oper) (tm : List AV) (v : AV) : Pend := match o.op with
  | .load t x => [(i, t, rho tm x, v)]
  | .alloc t => [(i, t, .tup [], v)]
  | _ => []
def sameV (v : AV) : AV → Heap → Prop := fun v' _ => v' = v
/-- what was made and is not yet written is as it was made -/
def keptZ (h : Heap) (o : Nat) (t : TypeId) : Option AV → Prop
  | some z => h[o]? = some (some (.arr t (flat z).length [z]))
  | none => False
def kept (P : Program) (t : TypeId) (h : Heap) : AV → Prop
  | .ptr o _ _ _ _ => keptZ h o t (zAV P t)
  | _ => False
def chk1 (P : Program) (t : TypeId) (h : Heap) (v : AV) : AV → Prop
  | .tup [] => kept P t h v
  | a => aload P t h (sameV v) a
def recheck (P : Program) (h : Heap) (pend : Pend) : List Nat → Prop
  | [] => True
  | j :: js => (∀ p ∈ pend, p.1 = j → chk1 P p.2.1 h p.2.2.2 p.2.2.1) ∧ recheck P h pend js
def adr (P : Program) (ops : List Oper) : List Stp → List AV → Heap → Pend → KO → Prop
  | [], tm, h, _, K => K tm h
  | s :: rest, tm, h, pend, K =>
    match ops[match s with | .q i => i | .c i _ => i]? with
    | none => False
    | some o =>
      let run (tm : List AV) : Prop := match s with
        | .q i => aop P o tm h fun v h' => adr P ops rest (put tm o.dst v) h' (pendOf i o tm v ++ pend) K
        | .c _ re => aop P o tm h fun v h' => recheck P h' pend re ∧ adr P ops rest (put tm o.dst v) h' pend K
      match o.guard with
      | none => run tm
      | some (j, want) => match guardTmp ops j with
        | none => False
        | some d => agd want (fun _ => run (tm.set d (.val (.bool want)))) (fun _ => adr P ops rest (put (tm.set d (.val (.bool !want))) o.dst (.tup [])) h pend K)
            (fun _ => adr P ops rest (put tm o.dst (.tup [])) h pend K) (tm.getD d (.tup []))

inductive AExit where
  | normal | exit (id : Nat) | ret
abbrev Kont := AExit → List AV → Heap → Prop

/-- the state of a frame, since the call began -/
structure Rl (M0 : MM) (w0 : World) (n L : Nat) (tm : List AV) (h : Heap) (M : MM) (act : Act) (w : World) : Prop where
  inv : Inv M h w
  tmps : Tmps M w tm act.tmps
  defers : act.defers = []
  ev : Ev M0 w0 M w
  abs : ∀ o, o < n → M0 o = .absent → M o = .absent
  le : n ≤ h.length
  len : tm.length = L

/-- a drawn region: to be shown to be sound elsewhere -/
def ADraw (P : Program) (ops : Array Oper) (tm : List AV) (h : Heap) (K : KO) : Prop :=
  ∀ (M0 : MM) (w0 : World) (n L : Nat) (M : MM) (w : World) (act : Act), Rl M0 w0 n L tm h M act w → ∀ (id : Nat) (Q : Exit → Act → World → Prop),
    (∀ tm' h' M' act' w', K tm' h' → Rl M0 w0 n L tm' h' M' act' w' → Q .normal act' w') → (Code.region id ops true).wp P Q act w

def kSeq0 (f : KO) (K : Kont) : Kont := fun e tm h => match e with
    | .normal => f tm h
    | e => K e tm h
def kBlock (id : Nat) (K : Kont) : Kont := fun e tm h => match e with
    | .exit id' => if id' = id then K .normal tm h else K (.exit id') tm h
    | e => K e tm h
def acond (a b : Unit → Prop) : AV → Prop
  | .val (.bool t) => AIf t a b
  | _ => False
theorem acond_bool {a b t} : acond a b (.val (.bool t)) = AIf t a b := nr rfl
def setL : List (Nat × AV) → List AV → List AV
  | [], t => t
  | p :: l, t => setL l (t.set p.1 p.2)
theorem setL_nil {t} : setL [] t = t := nr rfl
theorem setL_cons {n v l t} : setL ((n, v) :: l) t = setL l (t.set n v) := nr rfl
def mkT (n : Nat) (l : List (Nat × AV)) : List AV := setL l (List.replicate n .any)
theorem mkT_eq {n l} : mkT n l = setL l (List.replicate n .any) := nr rfl
def gets (tm : List AV) (sl : List Nat) : List AV := sl.map (tm.getD · .any)
theorem gets_cons {tm n sl} : gets tm (n :: sl) = tm.getD n .any :: gets tm sl := nr rfl
theorem gets_nil {tm} : gets tm [] = [] := nr rfl
def kLoop (sl : List Nat) (I : List AV → Heap → Prop) (μ : List AV → Heap → Nat) (m : Nat) (K : Kont) : Kont := fun e tm' h' => match e with
        | .normal => I (gets tm' sl) h' ∧ μ (gets tm' sl) h' < m
        | e => K e tm' h'

def kLoopF (sl : List Nat) (I : List AV → Heap → Prop) (μ : List AV → Heap → Nat) (m : Nat) (K : Kont) : Kont := fun e tm' h' => match e with
        | .normal => FzV (fun vs h => I vs h ∧ μ vs h < m) (gets tm' sl) h'
        | e => K e tm' h'
def kLoopB (fz : Bool) : (sl : List Nat) → (I : List AV → Heap → Prop) → (μ : List AV → Heap → Nat) → (m : Nat) → Kont → Kont := match fz with
  | false => kLoop
  | true => kLoopF
def aEnter (fz : Bool) (I : List AV → Heap → Prop) (vs : List AV) (h : Heap) : Prop := match fz with
  | false => I vs h
  | true => FzV I vs h

def aw (P : Program) : Code → List AV → Heap → Kont → Prop
  | .skip, tm, h, K => K .normal tm h
  | .region _ ops false, tm, h, K => aops P ops.toList ops.toList tm h (K .normal)
  | .region _ ops true, tm, h, K => ADraw P ops tm h (K .normal)
  | .seq a b, tm, h, K => aw P a tm h (kSeq0 (fun tm h => aw P b tm h K) K)
  | .cond c a b, tm, h, K => acond (fun _ => aw P a tm h K) (fun _ => aw P b tm h K) (rho tm c)
  | .block id c, tm, h, K => aw P c tm h (kBlock id K)
  | .loop c, tm, h, K => ∃ (fz : Bool) (sl : List Nat) (I : List AV → Heap → Prop) (μ : List AV → Heap → Nat), aEnter fz I (gets tm sl) h ∧
      ∀ vs h, vs.length = sl.length → I vs h → aw P c (mkT tm.length (sl.zip vs)) h (kLoopB fz sl I μ (μ vs h) K)
  | .exit id, tm, h, K => K (.exit id) tm h
  | .ret, tm, h, K => K .ret tm h
  | .label _, tm, h, K => K .normal tm h
  | _, _, _, _ => False
def tAw (P : Program) (c : Code) (tm : List AV) (h : Heap) (K : Kont) : Unit → Prop := fun _ => aw P c tm h K
theorem tAw_eq {P c tm h K} : tAw P c tm h K () = aw P c tm h K := nr rfl
def kSeq (P : Program) (b : Code) (K : Kont) : Kont := kSeq0 (fun tm h => aw P b tm h K) K
def aLoop (P : Program) (c : Code) (tm : List AV) (h : Heap) (K : Kont) : Prop := aw P (.loop c) tm h K
theorem aw_skip {P tm h K} : aw P .skip tm h K = K .normal tm h := nr rfl
theorem aw_region {P id ops tm h K} : aw P (.region id ⟨ops⟩ false) tm h K = aops P ops ops tm h (K .normal) := nr rfl
theorem aw_draw {P id ops tm h K} : aw P (.region id ops true) tm h K = ADraw P ops tm h (K .normal) := nr rfl
theorem aw_seq {P a b tm h K} : aw P (.seq a b) tm h K = aw P a tm h (kSeq P b K) := nr rfl
theorem aw_cond {P c a b tm h K} : aw P (.cond c a b) tm h K = acond (tAw P a tm h K) (tAw P b tm h K) (rho tm c) := nr rfl
theorem aw_block {P id c tm h K} : aw P (.block id c) tm h K = aw P c tm h (kBlock id K) := nr rfl
theorem aw_loop {P c tm h K} : aw P (.loop c) tm h K = aLoop P c tm h K := nr rfl
theorem aw_exit {P id tm h K} : aw P (.exit id) tm h K = K (.exit id) tm h := nr rfl
theorem aw_ret {P tm h K} : aw P .ret tm h K = K .ret tm h := nr rfl
theorem aw_label {P l tm h K} : aw P (.label l) tm h K = K .normal tm h := nr rfl
theorem kSeq_normal {P b K tm h} : kSeq P b K .normal tm h = aw P b tm h K := nr rfl
theorem kSeq_exit {P b K tm h id} : kSeq P b K (.exit id) tm h = K (.exit id) tm h := nr rfl
theorem kSeq_ret {P b K tm h} : kSeq P b K .ret tm h = K .ret tm h := nr rfl
theorem kBlock_normal {id K tm h} : kBlock id K .normal tm h = K .normal tm h := nr rfl
theorem kBlock_ret {id K tm h} : kBlock id K .ret tm h = K .ret tm h := nr rfl
theorem kBlock_exit {id id' K tm h} : kBlock id K (.exit id') tm h = if id' = id then K .normal tm h else K (.exit id') tm h := nr rfl
theorem kLoop_normal {sl I μ m K tm h} : kLoop sl I μ m K .normal tm h = (I (gets tm sl) h ∧ μ (gets tm sl) h < m) := nr rfl
theorem kLoop_exit {sl I μ m K tm h id} : kLoop sl I μ m K (.exit id) tm h = K (.exit id) tm h := nr rfl
theorem kLoop_ret {sl I μ m K tm h} : kLoop sl I μ m K .ret tm h = K .ret tm h := nr rfl
theorem aLoop_intro {P c tm h} {K : Kont} (sl : List Nat) (I : List AV → Heap → Prop) (μ : List AV → Heap → Nat) (h0 : I (gets tm sl) h)
   (hr : ∀ vs h, vs.length = sl.length → I vs h → aw P c (mkT tm.length (sl.zip vs)) h (kLoop sl I μ (μ vs h) K)) : aLoop P c tm h K :=
  ⟨false, sl, I, μ, h0, hr⟩
theorem aLoop_frz {P c tm h} {K : Kont} (sl : List Nat) (I : List AV → Heap → Prop) (μ : List AV → Heap → Nat) (h0 : FzV I (gets tm sl) h)
   (hr : ∀ vs h, vs.length = sl.length → I vs h → aw P c (mkT tm.length (sl.zip vs)) h (kLoopF sl I μ (μ vs h) K)) : aLoop P c tm h K :=
  ⟨true, sl, I, μ, h0, hr⟩
theorem kLoopF_normal {sl I μ m K tm h} : kLoopF sl I μ m K .normal tm h = FzV (fun vs h => I vs h ∧ μ vs h < m) (gets tm sl) h := nr rfl
theorem kLoopF_exit {sl I μ m K tm h id} : kLoopF sl I μ m K (.exit id) tm h = K (.exit id) tm h := nr rfl
theorem kLoopF_ret {sl I μ m K tm h} : kLoopF sl I μ m K .ret tm h = K .ret tm h := nr rfl
theorem AIf_intro {t : Bool} {a b : Unit → Prop} (h1 : t = true → a ()) (h2 : t = false → b ()) : AIf t a b := ⟨h1, h2⟩
theorem AIf_true {a b} : AIf true a b = a () := by simp [AIf]
theorem AIf_false {a b} : AIf false a b = b () := by simp [AIf]
end Go.Am

set_option linter.unusedVariables false
namespace Go.Am
open Go
section
variable {P : Program} {M : MM} {w : World} {n : Nat} {h : Heap}
/-- cells, one by one -/
def CR (M : MM) (w : World) (ls : List AV) (vs : List Value) : Prop := vs.length = ls.length ∧ ∀ (i : Nat) x v, ls[i]? = some x → vs[i]? = some v → VRel M w x v
theorem CR.append {a b : List AV} {vs us : List Value} (h1 : CR M w a vs) (h2 : CR M w b us) : CR M w (a ++ b) (vs ++ us) := by
  refine ⟨by simp [h1.1, h2.1], fun i x v hx hv => ?_⟩
  by_cases hlt : i < a.length
  · rw [List.getElem?_append_left hlt] at hx
    rw [List.getElem?_append_left (by rw [h1.1]; exact hlt)] at hv
    exact h1.2 i x v hx hv
  · rw [List.getElem?_append_right (by omega)] at hx
    rw [List.getElem?_append_right (by rw [h1.1]; omega), h1.1] at hv
    exact h2.2 _ x v hx hv
theorem CR.split {a b : List AV} {vs : List Value} (h1 : CR M w (a ++ b) vs) : CR M w a (vs.take a.length) ∧ CR M w b (vs.drop a.length) := by
  have hl := h1.1
  simp at hl
  refine ⟨⟨by simp; omega, fun i x v hx hv => ?_⟩, ⟨by simp; omega, fun i x v hx hv => ?_⟩⟩
  · have hlt := (List.getElem?_eq_some_iff.1 hx).1
    rw [List.getElem?_take, if_pos hlt] at hv
    exact h1.2 i x v (by rw [List.getElem?_append_left hlt]; exact hx) hv
  · rw [List.getElem?_drop] at hv
    exact h1.2 _ x v (by rw [List.getElem?_append_right (by omega), Nat.add_sub_cancel_left]; exact hx) hv
/-- a list, element by element -/
theorem CR.list {M' : MM} {xs ys : List AV} (hl : ys.length = xs.length) (hf : ∀ (i : Nat) x y, xs[i]? = some x → ys[i]? = some y → ∀ vs, CR M w (flat x) vs → CR M' w (flat y) vs) : ∀ vs, CR M w (flats xs) vs → CR M' w (flats ys) vs := by
  induction xs generalizing ys with
  | nil =>
    intro vs hv
    obtain rfl := List.length_eq_zero_iff.1 hl
    have : vs = [] := List.length_eq_zero_iff.1 (by rw [hv.1]; rfl)
    subst this
    exact ⟨rfl, by simp [flats]⟩
  | cons x xs ih =>
    intro vs hv
    cases ys with
    | nil => simp at hl
    | cons y ys =>
      obtain ⟨h1, h2⟩ := CR.split hv
      have k1 := hf 0 x y rfl rfl _ h1
      have k2 := ih (by simpa using hl) (fun i a b h3 h4 => hf (i + 1) a b (by simpa using h3) (by simpa using h4)) _ h2
      have := k1.append k2
      rw [List.take_append_drop] at this
      exact this
theorem CR.of_cells {b off : Nat} {ys : List AV} (hc : CellsRel M w b off ys) : ∃ vs, CellsAt w b off vs ∧ CR M w ys vs := by
  obtain ⟨vs, h1, h2, h3⟩ := cells_list hc
  exact ⟨vs, h2, h1, h3⟩
open Classical in
noncomputable def kill (S : Nat → Prop) (M : MM) : MM := fun o => if S o then (match M o with | .live _ => .dead | s => s) else M o
variable {S : Nat → Prop}
theorem kill_live {o a} (hk : kill S M o = .live a) : M o = .live a ∧ ¬ S o := by
  unfold kill at hk
  split at hk
  · cases hm : M o <;> simp [hm] at hk
  · rename_i hs; exact ⟨hk, hs⟩
theorem kill_not {o} (hs : ¬ S o) : kill S M o = M o := by unfold kill; rw [if_neg hs]
theorem kill_absent {o} (ha : M o = .absent) : kill S M o = .absent := by unfold kill; split <;> simp [ha]
theorem kill_ev : Ev M w (kill S M) w where
  size := Nat.le_refl _
  same _ _ _ := rfl
  live o a ha := by
    by_cases hs : S o
    · right; unfold kill; rw [if_pos hs, ha]
    · left; rw [kill_not hs, ha]
  dead o hd := by unfold kill; split <;> simp [hd]
  blk b hb := by
    obtain ⟨o, a, ho, rfl⟩ := hb
    exact .inl ⟨o, a, (kill_live ho).1, rfl⟩
  shape b cells e fz _ hb := ⟨cells, hb, rfl⟩
  os := rfl
  tape := rfl
  output := rfl
theorem not_blk_kill (hi : Inv M h w) {o b bo : Nat} (hM : M o = .live ⟨b, bo, none⟩) (hS : S o) : ¬ blk (kill S M) b := by
  rintro ⟨k, a, hk, hb⟩
  obtain ⟨h1, h2⟩ := kill_live hk
  have := hi.inj k o a _ h1 hM hb
  subst this
  exact h2 hS
theorem FrzSL.spec {h xs ys} (f : FrzSL S h xs ys) : ys.length = xs.length ∧ ∀ (i : Nat) x y, xs[i]? = some x → ys[i]? = some y → FrzS S h x y := by
  induction f with
  | nil => exact ⟨rfl, fun i x y h => by simp at h⟩
  | cons hx hs ih =>
    refine ⟨by simp [ih.1], fun i x y h1 h2 => ?_⟩
    cases i with
    | zero => simp at h1 h2; subst h1; subst h2; exact hx
    | succ i => exact ih.2 i x y (by simpa using h1) (by simpa using h2)
theorem FrzSL.mk' {h} : ∀ {xs ys : List AV}, ys.length = xs.length → (∀ (i : Nat) x y, xs[i]? = some x → ys[i]? = some y → FrzS S h x y) → FrzSL S h xs ys
  | [], [], _, _ => .nil
  | x :: xs, y :: ys, hl, hf => .cons (hf 0 x y rfl rfl) (FrzSL.mk' (by simpa using hl) fun i a b h1 h2 => hf (i + 1) a b (by simpa using h1) (by simpa using h2))
  | [], _ :: _, hl, _ => by simp at hl
  | _ :: _, [], hl, _ => by simp at hl
theorem frzS_cr (hi : Inv M h w) {x y} (hf : FrzS S h x y) : ∀ vs, CR M w (flat x) vs → CR (kill S M) w (flat y) vs := by
  induction hf with
  | pure x =>
    intro vs hv
    exact ⟨hv.1, fun i y v hy hu => (hv.2 i y v hy hu).ev kill_ev⟩
  | sl o sz off len cap e xs ys ho hS hl hy hu hf ih =>
    intro vs hv
    obtain ⟨v, rfl⟩ : ∃ v, vs = [v] := by
      have := hv.1
      simp [flat] at this
      exact List.length_eq_one_iff.1 this
    have hvr := hv.2 0 _ v rfl rfl
    refine ⟨by simp [flat], fun i x u hx hu' => ?_⟩
    cases i with
    | succ i => simp [flat] at hx
    | zero =>
      simp [flat] at hx hu'
      subst hx; subst hu'
      cases hvr with
      | sld _ _ _ _ _ c a hM => exact (hi.not_dead ho hM).elim
      | sl _ _ _ _ _ b bo c a hM hlc hcap ha room =>
        obtain ⟨b', bo', heq, hu0, cells, hb, hcells⟩ := hi.live_of ho hM
        cases heq
        have hu1 : ∀ x ∈ xs, (flat x).length = sz := fun x hx => (hu0 x hx).1
        have hsub : flats ((xs.drop off).take len) = ((flats xs).drop (off * sz)).take (len * sz) := by
          rw [flats_take (fun x hx => hu1 x (List.mem_of_mem_drop hx)), flats_drop hu1]
        have hcr : CellsRel M w b (bo + off * sz) (flats ((xs.drop off).take len)) := by
          intro j y hy
          rw [hsub, List.getElem?_take] at hy
          split at hy
          · rw [List.getElem?_drop] at hy
            obtain ⟨v, h3, h4⟩ := hcells _ y hy
            exact ⟨v, by rw [← Nat.add_assoc] at h3; simp [World.cell?, hb, h3], h4⟩
          · cases hy
        obtain ⟨us, hat, hcru⟩ := CR.of_cells hcr
        have hcr2 := CR.list (M' := kill S M) (w := w) (xs := (xs.drop off).take len) (ys := ys) (by simp; omega) (fun i x y hx hy' us hus => by
          rw [List.getElem?_take] at hx
          split at hx
          · rw [List.getElem?_drop] at hx
            exact ih i x y hx hy' us hus
          · cases hx) us hcru
        subst hy
        refine .il sz ys (some a) c us hlc hu hcr2.1 (fun hne => ?_) hcr2.2
        have hpos : 0 < ys.length := List.length_pos_iff.2 hne
        exact ⟨b, bo + off * sz, by rw [ha (by omega)], not_blk_kill hi hM hS, hi.lt _ _ hM, hat⟩
  | ptr o sz i k p e xs x y z ho hS hx hs hk hf ih =>
    intro vs hv
    obtain ⟨v, rfl⟩ : ∃ v, vs = [v] := by
      have := hv.1
      simp [flat] at this
      exact List.length_eq_one_iff.1 this
    have hvr := hv.2 0 _ v rfl rfl
    refine ⟨by simp [flat], fun i' x' u hx' hu' => ?_⟩
    cases i' with
    | succ i' => simp [flat] at hx'
    | zero =>
      simp [flat] at hx' hu'
      subst hx'; subst hu'
      cases hvr with
      | ptrd _ _ _ _ _ a hM => exact (hi.not_dead ho hM).elim
      | ptr _ _ _ _ _ b bo hM =>
        obtain ⟨b', bo', heq, hr⟩ := hi.live_of ho hM
        cases heq
        obtain ⟨hlt, rfl⟩ := List.getElem?_eq_some_iff.1 hx
        obtain ⟨us, hat, hcru⟩ := CR.of_cells (hr.cells hlt hs hk)
        have hcr2 := ih us hcru
        exact .iptr z b _ us hcr2.1 (not_blk_kill hi hM hS) (hi.lt _ _ hM) hat hcr2.2
  | agg xs ys hl hf ih =>
    intro vs hv
    exact CR.list hl (fun i x y hx hy us hus => ih i x y hx hy us hus) vs hv
  | nil sz =>
    intro vs hv
    obtain ⟨v, rfl⟩ : ∃ v, vs = [v] := by
      have := hv.1
      simp [flat] at this
      exact List.length_eq_one_iff.1 this
    have hvr := hv.2 0 _ v (by simp [flat]; rfl) rfl
    refine ⟨by simp [flat], fun i' x' u hx' hu' => ?_⟩
    cases i' with
    | succ i' => simp [flat] at hx'
    | zero =>
      simp [flat] at hx' hu'
      subst hx'; subst hu'
      cases hvr with
      | val => exact .il sz [] none 0 [] (Nat.le_refl _) (by simp) (by simp [flats]) (fun h => absurd rfl h) (by simp)
  | emp sz =>
    intro vs hv
    obtain ⟨v, rfl⟩ : ∃ v, vs = [v] := by
      have := hv.1
      simp [flat] at this
      exact List.length_eq_one_iff.1 this
    have hvr := hv.2 0 _ v (by simp [flat]; rfl) rfl
    refine ⟨by simp [flat], fun i' x' u hx' hu' => ?_⟩
    cases i' with
    | succ i' => simp [flat] at hx'
    | zero =>
      simp [flat] at hx' hu'
      subst hx'; subst hu'
      cases hvr with
      | emp a => exact .il sz [] a 0 [] (Nat.le_refl _) (by simp) (by simp [flats]) (fun h => absurd rfl h) (by simp)
theorem frzS_vrel (hi : Inv M h w) {x y} (hf : FrzS S h x y) {v} (hv : VRel M w x v) : VRel (kill S M) w y v := by
  have hf0 := hf
  have one : ∀ x y, flat x = [x] → flat y = [y] → FrzS S h x y → VRel M w x v → VRel (kill S M) w y v := by
    intro x y e1 e2 hf hv
    have h1 : CR M w (flat x) [v] := by rw [e1]; exact ⟨rfl, fun i y u h1 h2 => by cases i with | zero => simp at h1 h2; subst h1; subst h2; exact hv | succ i => simp at h1⟩
    exact (frzS_cr hi hf _ h1).2 0 y v (by rw [e2]; rfl) rfl
  cases hf with
  | pure => exact hv.ev kill_ev
  | agg xs ys hl hf =>
    cases hv with
    | agg _ cs hl hr =>
      have h1 : CR M w (flat (.agg xs)) cs.toList := ⟨by simpa [flat] using hl, fun i x v h1 h2 => hr i x v h1 (by simpa using h2)⟩
      have h2 := frzS_cr hi hf0 _ h1
      exact .agg ys cs (by simpa [flat] using h2.1) (fun i x v h3 h4 => h2.2 i x v h3 (by simpa using h4))
  | sl => exact one _ _ rfl rfl hf0 hv
  | ptr => exact one _ _ rfl rfl hf0 hv
  | nil => exact one _ _ rfl rfl hf0 hv
  | emp => exact one _ _ rfl rfl hf0 hv
theorem frzH_inv {h' : Heap} (hi : Inv M h w) (hh : FrzH S h h') : Inv (kill S M) h' w where
  live o ob' ho := by
    obtain ⟨ob, h1, h2⟩ := hh.obj o ob' ho
    have hs : ¬ S o := fun hs => hh.gone o hs ob' ho
    rcases hi.live o ob h1 with h3 | ⟨b, bo, h3, h4⟩
    · exact .inl (kill_absent h3)
    · refine .inr ⟨b, bo, by rw [kill_not hs, h3], ?_⟩
      cases h2 with
      | same => exact h4.ev kill_ev rfl
      | arr e sz xs ys hl hu hf =>
        obtain ⟨hu0, cells, hb, hc⟩ := h4
        refine ⟨hu, cells, hb, fun i y hy => ?_⟩
        have hcr : CellsRel M w b bo (flats xs) := fun j z hz => let ⟨v, k1, k2⟩ := hc j z hz; ⟨v, by simp [World.cell?, hb, k1], k2⟩
        obtain ⟨us, hat, hcru⟩ := CR.of_cells hcr
        have hcr2 := CR.list (M' := kill S M) (w := w) hl (fun i x y hx hy' us hus => frzS_cr hi (hf.spec.2 i x y hx hy') us hus) us hcru
        have hlt : i < us.length := by rw [hcr2.1]; exact (List.getElem?_eq_some_iff.1 hy).1
        have hu' := List.getElem?_eq_getElem hlt
        refine ⟨us[i], ?_, hcr2.2 i y _ hy hu'⟩
        have := hat i _ hu'
        simpa [World.cell?, hb] using this
  dead o ho := by
    by_cases hs : S o
    · unfold kill
      rw [if_pos hs]
      cases M o <;> simp
    · rw [kill_not hs]
      exact hi.dead o (hh.none o hs ho)
  out o ho := kill_absent (hi.out o (by rw [← hh.len]; exact ho))
  inj o o' a a' h1 h2 := hi.inj o o' a a' (kill_live h1).1 (kill_live h2).1
  lt o a ha := hi.lt o a (kill_live ha).1
theorem frzS_tmps (hi : Inv M h w) {xs ys : List AV} {vs : Array Value} (hf : FrzSL S h xs ys) (ht : Tmps M w xs vs) : Tmps (kill S M) w ys vs := by
  obtain ⟨h1, h2⟩ := hf.spec
  refine ⟨by rw [ht.1, h1], fun i y v hy hv => ?_⟩
  have hlt : i < xs.length := by rw [← h1]; exact (List.getElem?_eq_some_iff.1 hy).1
  have hx := List.getElem?_eq_getElem hlt
  exact frzS_vrel hi (h2 i _ y hx hy) (ht.2 i _ v hx hv)
theorem Rl.frz {M0 : MM} {w0 : World} {L : Nat} {tm tm' : List AV} {h' : Heap} {act : Act} (hr : Rl M0 w0 n L tm h M act w) (hf : FrzSL S h tm tm') (hh : FrzH S h h') : Rl M0 w0 n L tm' h' (kill S M) act w :=
  ⟨frzH_inv hr.inv hh, frzS_tmps hr.inv hf hr.tmps, hr.defers, hr.ev.trans kill_ev, fun o ho ha => kill_absent (hr.abs o ho ha), by rw [hh.len]; exact hr.le, by rw [hf.spec.1]; exact hr.len⟩
theorem setL_frz {h : Heap} (sl : List Nat) : ∀ (vs vs' t t' : List AV), FrzSL S h vs vs' → FrzSL S h t t' → FrzSL S h (setL (sl.zip vs) t) (setL (sl.zip vs') t') := by
  induction sl with
  | nil => intro vs vs' t t' _ h2; simpa [setL] using h2
  | cons s sl ih =>
    intro vs vs' t t' h1 h2
    cases h1 with
    | nil => simpa [setL] using h2
    | cons hx hs =>
      simp only [List.zip_cons_cons, setL_cons]
      refine ih _ _ _ _ hs (FrzSL.mk' (by simp [h2.spec.1]) fun i x y h3 h4 => ?_)
      rw [List.getElem?_set] at h3 h4
      split at h3
      · rename_i e
        rw [if_pos e] at h4
        split at h3 <;> split at h4 <;> first | (cases h4; done) | (cases h3; done) | (cases h3; cases h4; exact hx)
      · rename_i e
        rw [if_neg e] at h4
        exact h2.spec.2 i x y h3 h4
theorem mkT_frz {h : Heap} (L : Nat) (sl : List Nat) {vs vs' : List AV} (hf : FrzSL S h vs vs') : FrzSL S h (mkT L (sl.zip vs)) (mkT L (sl.zip vs')) :=
  setL_frz sl _ _ _ _ hf (FrzSL.mk' rfl fun i x y h1 h2 => by rw [h1] at h2; cases h2; exact .pure _)
end
end Go.Am
