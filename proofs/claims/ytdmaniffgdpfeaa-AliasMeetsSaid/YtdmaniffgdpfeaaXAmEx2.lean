/- A part of the proof that AliasThings and AliasMeets return true for every module: texts on an abstract reading of the code (AmEx2). -/
import Derived.Test.YtdmaniffgdpfeaaXAmEx
import Derived.Test.YtdmaniffgdpfeaaXAmFrz
set_option linter.unusedVariables false
set_option linter.unusedSimpArgs false
set_option linter.unusedSectionVars false
set_option linter.unusedVariables false
namespace Go.Am
open Go

mutual
def eqAV : AV → AV → Bool
  | .val a, .val b => eqG a b
  | .agg xs, .agg ys => eqAVs xs ys
  | .il s xs, .il t ys => Nat.beq s t && eqAVs xs ys
  | .sl a b c d e, .sl a' b' c' d' e' => Nat.beq a a' && Nat.beq b b' && Nat.beq c c' && Nat.beq d d' && (e == e')
  | .ptr a b c d e, .ptr a' b' c' d' e' => Nat.beq a a' && Nat.beq b b' && Nat.beq c c' && Nat.beq d d' && natsEq e e'
  | .iptr x, .iptr y => eqAV x y
  | .emp, .emp => true
  | .mp a, .mp b => Nat.beq a b
  | _, _ => false
def eqAVs : List AV → List AV → Bool
  | [], [] => true
  | x :: xs, y :: ys => eqAV x y && eqAVs xs ys
  | _, _ => false
end
mutual
theorem eqAV_ok : ∀ {x y}, eqAV x y = true → x = y
  | .val a, y, h => by cases y <;> simp_all [eqAV]; exact (eqG_eq h).1
  | .agg xs, y, h => by cases y <;> simp_all [eqAV]; exact eqAVs_ok h
  | .il s xs, y, h => by cases y <;> simp_all [eqAV]; exact eqAVs_ok h.2
  | .sl .., y, h => by cases y <;> simp_all [eqAV]
  | .ptr .., y, h => by cases y <;> simp_all [eqAV]; exact natsEq_ok h.2
  | .iptr x, y, h => by cases y <;> simp_all [eqAV]; exact eqAV_ok h
  | .emp, y, h => by cases y <;> simp_all [eqAV]
  | .mp a, y, h => by cases y <;> simp_all [eqAV]
  | .any, y, h => by cases y <;> simp_all [eqAV]
  | .tup _, y, h => by cases y <;> simp_all [eqAV]
  | .fn .., y, h => by cases y <;> simp_all [eqAV]
theorem eqAVs_ok : ∀ {xs ys}, eqAVs xs ys = true → xs = ys
  | [], [], _ => rfl
  | x :: xs, y :: ys, h => by
    simp only [eqAVs, Bool.and_eq_true] at h
    rw [eqAV_ok h.1, eqAVs_ok h.2]
  | [], _ :: _, h => by simp [eqAVs] at h
  | _ :: _, [], h => by simp [eqAVs] at h
end
def eqO : Option AV → AV → Bool
  | some x, y => eqAV x y
  | none, _ => false
theorem eqO_ok {x y} (h : eqO x y = true) : x = some y := by
  cases x with
  | none => simp [eqO] at h
  | some x => rw [eqAV_ok h]
def xgd {α : Type} (want : Bool) (run s1 : Unit → Option α) (s2 : Unit → Option α) : AV → Option α
  | .val (.bool true) => match want with
    | true => run ()
    | false => s1 ()
  | .val (.bool false) => match want with
    | true => s1 ()
    | false => run ()
  | .tup [] => s2 ()
  | _ => none
section
variable (P : Program) (call : XCall)
def xops (ops : List Oper) : List Oper → List AV → Heap → Option (List AV × Heap)
  | [], tm, h => some (tm, h)
  | o :: rest, tm, h => match o.guard with
    | none => match xop P call o tm h with
      | some (v, h') => xops ops rest (put tm o.dst v) h'
      | none => none
    | some (j, want) => match guardTmp ops j with
      | none => none
      | some d => match tm.getD d (.tup []) with
        | .val (.bool b) => match b == want with
          | true => match xop P call o (tm.set d (.val (.bool want))) h with
            | some (v, h') => xops ops rest (put (tm.set d (.val (.bool want))) o.dst v) h'
            | none => none
          | false => xops ops rest (put (tm.set d (.val (.bool !want))) o.dst (.tup [])) h
        | .tup [] => xops ops rest (put tm o.dst (.tup [])) h
        | _ => none
theorem xops_ok {P call} (hc : CallOk P call) {ops : List Oper} {K : KO} (rest : List Oper) : ∀ {tm h tm' h'}, xops P call ops rest tm h = some (tm', h') → K tm' h' → aops P ops rest tm h K := by
  induction rest with
  | nil => intro tm h tm' h' e hk; simp only [xops] at e; cases e; rw [aops_nil]; exact hk
  | cons o rest ih =>
    intro tm h tm' h' e hk
    unfold xops at e
    unfold aops
    split at e
    · rename_i hg
      rw [hg]
      simp only
      split at e
      · rename_i v h1 he
        exact xop_ok hc he (ih e hk)
      · cases e
    · rename_i j want hg
      rw [hg]
      simp only
      split at e
      · cases e
      · rename_i d hd
        rw [hd]
        simp only
        split at e
        · rename_i b hb
          rw [hb]
          rw [agd_bool]
          split at e
          · rename_i hw
            rw [hw, AIf_true]
            split at e
            · rename_i v h1 he
              exact xop_ok hc he (ih e hk)
            · cases e
          · rename_i hw
            rw [hw, AIf_false]
            exact ih e hk
        · rename_i hb
          rw [hb, agd_undef]
          exact ih e hk
        · cases e
def xre (h : Heap) (pend : Pend) (js : List Nat) : Bool := js.all fun j => pend.all fun p => !(Nat.beq p.1 j) || eqO (xload P p.2.1 h p.2.2.1) p.2.2.2
theorem xre_ok {P h pend} (js : List Nat) (e : xre P h pend js = true) : recheck P h pend js := by
  induction js with
  | nil => trivial
  | cons j js ih =>
    simp only [xre, List.all_cons, Bool.and_eq_true] at e
    refine ⟨fun p hp hj => ?_, ih e.2⟩
    have := List.all_eq_true.1 e.1 p hp
    rw [hj] at this
    simp only [Nat.beq_refl, Bool.not_true, Bool.false_or] at this
    have hx := eqO_ok this
    unfold chk1
    split
    · rename_i e2
      rw [e2] at hx
      cases hx
    · exact xload_ok hx rfl
def xdr1 (s : Stp) (o : Oper) (tm : List AV) (h : Heap) (pend : Pend) : Option (List AV × Heap × Pend) := match xop P call o tm h with
  | some (v, h') => match s with
    | .q i => some (put tm o.dst v, h', pendOf i o tm v ++ pend)
    | .c _ re => xguard (xre P h' pend re) (some (put tm o.dst v, h', pend))
  | none => none
def xdr (ops : List Oper) : List Stp → List AV → Heap → Pend → Option (List AV × Heap)
  | [], tm, h, _ => some (tm, h)
  | s :: rest, tm, h, pend => match ops[match s with | .q i => i | .c i _ => i]? with
    | none => none
    | some o => match o.guard with
      | none => match xdr1 P call s o tm h pend with
        | some (tm', h', p') => xdr ops rest tm' h' p'
        | none => none
      | some (j, want) => match guardTmp ops j with
        | none => none
        | some d => match tm.getD d (.tup []) with
          | .val (.bool b) => match b == want with
            | true => match xdr1 P call s o (tm.set d (.val (.bool want))) h pend with
              | some (tm', h', p') => xdr ops rest tm' h' p'
              | none => none
            | false => xdr ops rest (put (tm.set d (.val (.bool !want))) o.dst (.tup [])) h pend
          | .tup [] => xdr ops rest (put tm o.dst (.tup [])) h pend
          | _ => none
theorem xdr1_ok {P call} (hc : CallOk P call) {ops : List Oper} {rest : List Stp} {K : KO} {s o tm h pend tm' h' p'} (e : xdr1 P call s o tm h pend = some (tm', h', p')) (hk : adr P ops rest tm' h' p' K) :
    (match s with
        | .q i => aop P o tm h fun v h' => adr P ops rest (put tm o.dst v) h' (pendOf i o tm v ++ pend) K
        | .c _ re => aop P o tm h fun v h' => recheck P h' pend re ∧ adr P ops rest (put tm o.dst v) h' pend K) := by
  unfold xdr1 at e
  split at e
  · rename_i v h1 he
    cases s with
    | q i =>
      simp only at e ⊢
      cases e
      exact xop_ok hc he hk
    | c i re =>
      simp only at e ⊢
      obtain ⟨h2, h3⟩ := xguard_some e
      cases h3
      exact xop_ok hc he ⟨xre_ok _ h2, hk⟩
  · cases e
theorem xdr_ok {P call} (hc : CallOk P call) {ops : List Oper} {K : KO} (rest : List Stp) : ∀ {tm h pend tm' h'}, xdr P call ops rest tm h pend = some (tm', h') → K tm' h' → adr P ops rest tm h pend K := by
  induction rest with
  | nil => intro tm h pend tm' h' e hk; simp only [xdr] at e; cases e; rw [adr_nil']; exact hk
  | cons s rest ih =>
    intro tm h pend tm' h' e hk
    cases s
    all_goals
      unfold xdr at e
      unfold adr
      simp only at e ⊢
      split at e
      · cases e
      · rename_i o ho
        rw [ho]
        simp only
        split at e
        · rename_i hg
          rw [hg]
          simp only
          split at e
          · rename_i t1 h1 p1 he
            exact xdr1_ok hc he (ih e hk)
          · cases e
        · rename_i j want hg
          rw [hg]
          simp only
          split at e
          · cases e
          · rename_i d hd
            rw [hd]
            simp only
            split at e
            · rename_i b hb
              rw [hb, agd_bool]
              split at e
              · rename_i hw
                rw [hw, AIf_true]
                split at e
                · rename_i t1 h1 p1 he
                  exact xdr1_ok hc he (ih e hk)
                · cases e
              · rename_i hw
                rw [hw, AIf_false]
                exact ih e hk
            · rename_i hb
              rw [hb, agd_undef]
              exact ih e hk
            · cases e
abbrev Tab := Nat → Option (List Stp)
def xcode (tab : Tab) : Nat → Code → List AV → Heap → Option (AExit × List AV × Heap)
  | 0, _, _, _ => none
  | _ + 1, .skip, tm, h => some (.normal, tm, h)
  | _ + 1, .region id ops d, tm, h => match d with
    | false => match xops P call ops.toList ops.toList tm h with
      | some (tm', h') => some (.normal, tm', h')
      | none => none
    | true => match tab id with
      | some st => xguard (chk ops st) (match xdr P call ops.toList st tm h [] with
        | some (tm', h') => some (.normal, tm', h')
        | none => none)
      | none => none
  | n + 1, .seq a b, tm, h => match xcode tab n a tm h with
    | some (.normal, tm', h') => xcode tab n b tm' h'
    | r => r
  | n + 1, .cond c a b, tm, h => match rho tm c with
    | .val (.bool true) => xcode tab n a tm h
    | .val (.bool false) => xcode tab n b tm h
    | _ => none
  | n + 1, .block id c, tm, h => match xcode tab n c tm h with
    | some (.exit id', tm', h') => match Nat.beq id' id with
      | true => some (.normal, tm', h')
      | false => some (.exit id', tm', h')
    | r => r
  | n + 1, .loop c, tm, h => match xcode tab n c tm h with
    | some (.normal, tm', h') => xguard (Nat.beq tm'.length tm.length) (xcode tab n (.loop c) tm' h')
    | r => r
  | _ + 1, .exit id, tm, h => some (.exit id, tm, h)
  | _ + 1, .ret, tm, h => some (.ret, tm, h)
  | _ + 1, .label _, tm, h => some (.normal, tm, h)
  | _ + 1, _, _, _ => none
end
theorem gets_range (tm : List AV) : gets tm (List.range tm.length) = tm := by
  apply List.ext_getElem?
  intro i
  simp only [gets, List.getElem?_map]
  by_cases hi : i < tm.length
  · rw [List.getElem?_range hi]
    simp [List.getD, hi]
  · rw [List.getElem?_eq_none (by simpa using hi), List.getElem?_eq_none (by simpa using hi)]
    rfl
theorem setL_range' (vs : List AV) : ∀ (k : Nat) (t : List AV), k + vs.length = t.length → setL ((List.range' k vs.length).zip vs) t = t.take k ++ vs := by
  induction vs with
  | nil => intro k t ht; simp at ht; simp [setL, ht]
  | cons v vs ih =>
    intro k t ht
    simp only [List.length_cons] at ht
    rw [List.length_cons, List.range'_succ, List.zip_cons_cons, setL_cons, ih (k + 1) _ (by simp; omega)]
    apply List.ext_getElem?
    intro i
    have hk : k < t.length := by omega
    rcases Nat.lt_trichotomy i k with hlt | rfl | hgt
    · rw [List.getElem?_append_left (by simp; omega), List.getElem?_append_left (by simp; omega), List.getElem?_take, List.getElem?_take, if_pos (by omega), if_pos hlt, List.getElem?_set, if_neg (by omega)]
    · rw [List.getElem?_append_left (by simp; omega), List.getElem?_append_right (by simp; omega), List.getElem?_take, if_pos (by omega), List.getElem?_set, if_pos rfl, if_pos hk]
      simp [Nat.min_eq_left (Nat.le_of_lt hk)]
    · rw [List.getElem?_append_right (by simp; omega), List.getElem?_append_right (by simp; omega)]
      simp only [List.length_take, List.length_set]
      rw [Nat.min_eq_left (by omega), Nat.min_eq_left (by omega)]
      obtain ⟨d, rfl⟩ : ∃ d, i = k + 1 + d := ⟨i - (k + 1), by omega⟩
      rw [show k + 1 + d - (k + 1) = d by omega, show k + 1 + d - k = d + 1 by omega]
      rfl
theorem mkT_range (vs : List AV) : mkT vs.length ((List.range vs.length).zip vs) = vs := by
  rw [mkT, List.range_eq_range', setL_range' vs 0 _ (by simp)]
  rfl
theorem xcode_ok {P call} (hc : CallOk P call) (hm : P.follows .mixedOrders = true) {tab : Tab} (c : Code) : ∀ {n tm h e tm' h'}, xcode P call tab n c tm h = some (e, tm', h') → ∀ {K : Kont}, K e tm' h' → aw P c tm h K := by
  induction c with
  | skip => intro n tm h e tm' h' he K hk; cases n <;> simp only [xcode] at he <;> cases he; exact hk
  | region id ops d =>
    intro n tm h e tm' h' he K hk
    cases n with
    | zero => simp only [xcode] at he; cases he
    | succ n =>
      simp only [xcode] at he
      cases d with
      | false =>
        simp only at he
        split at he
        · rename_i heq; cases he; exact xops_ok hc _ heq hk
        · cases he
      | true =>
        simp only at he
        split at he
        · obtain ⟨h1, h2⟩ := xguard_some he
          split at h2
          · rename_i heq; cases h2; exact ADraw.intro hm h1 (xdr_ok hc _ heq hk)
          · cases h2
        · cases he
  | seq a b iha ihb =>
    intro n tm h e tm' h' he K hk
    cases n with
    | zero => simp only [xcode] at he; cases he
    | succ n =>
      simp only [xcode] at he
      split at he
      · rename_i heq
        exact iha heq (ihb he hk)
      · rename_i hne
        refine iha he ?_
        cases e with
        | normal => exact (hne _ _ he).elim
        | exit id => exact hk
        | ret => exact hk
  | cond c a b iha ihb =>
    intro n tm h e tm' h' he K hk
    cases n with
    | zero => simp only [xcode] at he; cases he
    | succ n =>
      simp only [xcode] at he
      rw [aw_cond]
      split at he
      · rename_i heq; rw [heq, acond_bool, AIf_true]; exact iha he hk
      · rename_i heq; rw [heq, acond_bool, AIf_false]; exact ihb he hk
      · cases he
  | block id c ih =>
    intro n tm h e tm' h' he K hk
    cases n with
    | zero => simp only [xcode] at he; cases he
    | succ n =>
      simp only [xcode] at he
      split at he
      · rename_i heq
        refine ih heq ?_
        split at he
        · rename_i hid; cases he; rw [kBlock_exit, if_pos (Nat.eq_of_beq_eq_true hid)]; exact hk
        · rename_i hid; cases he; rw [kBlock_exit, if_neg (nbf.1 hid)]; exact hk
      · rename_i hne
        refine ih he ?_
        cases e with
        | normal => exact hk
        | exit id' => exact (hne _ _ _ he).elim
        | ret => exact hk
  | loop c ih =>
    intro n tm h e tm' h' he K hk
    let S : List AV → Heap → Nat → Prop := fun vs h m => xcode P call tab m (.loop c) vs h = some (e, tm', h')
    refine aLoop_intro (List.range tm.length) (fun vs h => vs.length = tm.length ∧ ∃ m, S vs h m) (fun vs h => minOf (S vs h)) ⟨by rw [gets_range], by rw [gets_range]; exact ⟨n, he⟩⟩ ?_
    rintro vs h1 - hI
    obtain ⟨hl, hS⟩ := hI
    rw [← hl, mkT_range]
    have hs := (minOf_spec hS).1
    generalize hmm : minOf (S vs h1) = m at hs
    cases m with
    | zero => simp only [S, xcode] at hs; cases hs
    | succ m =>
      simp only [S, xcode] at hs
      split at hs
      · rename_i t2 h2 heq
        obtain ⟨h3, h4⟩ := xguard_some hs
        have h3' := Nat.eq_of_beq_eq_true h3
        refine ih heq ?_
        rw [kLoop_normal]
        have hg : gets t2 (List.range vs.length) = t2 := by rw [← h3', gets_range]
        rw [hg]
        refine ⟨⟨h3', m, h4⟩, ?_⟩
        have := (minOf_spec (S := S t2 h2) ⟨m, h4⟩).2 m h4
        omega
      · rename_i hne
        refine ih hs ?_
        cases e with
        | normal => exact (hne _ _ hs).elim
        | exit id => exact hk
        | ret => exact hk
  | exit id => intro n tm h e tm' h' he K hk; cases n <;> simp only [xcode] at he <;> cases he; exact hk
  | ret => intro n tm h e tm' h' he K hk; cases n <;> simp only [xcode] at he <;> cases he; exact hk
  | label l => intro n tm h e tm' h' he K hk; cases n <;> simp only [xcode] at he <;> cases he; exact hk
  | rangeFunc => intro n tm h e tm' h' he; cases n <;> simp only [xcode] at he <;> cases he
  | scope => intro n tm h e tm' h' he; cases n <;> simp only [xcode] at he <;> cases he
  | goto => intro n tm h e tm' h' he; cases n <;> simp only [xcode] at he <;> cases he
  | refuse => intro n tm h e tm' h' he; cases n <;> simp only [xcode] at he <;> cases he
def xres (P : Program) (tm : List AV) (h : Heap) : List ResultVar → List AV → Option AV
  | [], acc => some (resAV acc)
  | .tmp t :: r, acc => xres P tm h r (acc ++ [tm.getD t (.tup [])])
  | .cell a t :: r, acc => match xload P t h (tm.getD a (.tup [])) with
    | some v => xres P tm h r (acc ++ [v])
    | none => none
theorem xres_ok {P tm h y} {K : AV → Heap → Prop} (hk : K y h) (rs : List ResultVar) : ∀ {acc}, xres P tm h rs acc = some y → ares P K tm rs acc h := by
  induction rs with
  | nil => intro acc e; simp only [xres] at e; cases e; exact hk
  | cons r rs ih =>
    intro acc e
    cases r with
    | tmp t => exact ih e
    | cell a t =>
      simp only [xres] at e
      split at e
      · rename_i heq; exact xload_ok heq (ih e)
      · cases e
def xend (P : Program) (h0 : Heap) (rs : List ResultVar) : Option (AExit × List AV × Heap) → Option (AV × Heap)
  | some (.exit _, _, _) => none
  | some (_, tm, h) => match xres P tm h rs [] with
    | some v => xguard (Nat.ble h0.length h.length) (some (v, h))
    | none => none
  | none => none
def xrun (P : Program) (tabs : FuncId → Tab) : Nat → XCall
  | 0 => fun _ _ _ => none
  | n + 1 => fun f args h => match P.funcs[f]? with
    | none => none
    | some fn => match fn.body with
      | none => none
      | some c => xguard (Nat.ble args.length fn.ntmps) (xend P h fn.results.toList (xcode P (xrun P tabs n) (tabs f) n c (args ++ List.replicate (fn.ntmps - args.length) (.tup [])) h))
theorem xrun_ok {P tabs} (hm : P.follows .mixedOrders = true) (hN : P.funcs.all (fun fn => !(fn.name == "runtime.NumGoroutine")) = true) : ∀ n, CallOk P (xrun P tabs n) := by
  intro n
  induction n with
  | zero => intro f args h v h' e; simp only [xrun] at e; cases e
  | succ n ih =>
    intro f args h v h' e K hk
    simp only [xrun] at e
    split at e
    · cases e
    · rename_i fn hf
      split at e
      · cases e
      · rename_i c hb
        obtain ⟨h1, h2⟩ := xguard_some e
        have hnm : (fn.name == "runtime.NumGoroutine") = false := by
          have := Array.all_eq_true_iff_forall_mem.1 hN fn (Array.mem_of_getElem? hf)
          simpa using this
        refine RunsK.intro hf hb hnm (Nat.le_of_ble_eq_true h1) ?_
        unfold xend at h2
        have fin : ∀ tm1 h1, (match xres P tm1 h1 fn.results.toList [] with
            | some v => xguard (Nat.ble h.length h1.length) (some (v, h1))
            | none => none) = some (v, h') → ares P (WRet h K) tm1 fn.results.toList [] h1 := by
          intro tm1 h1 h2
          split at h2
          · rename_i y hy
            obtain ⟨h3, h4⟩ := xguard_some h2
            cases h4
            exact xres_ok ⟨_, _, Wk.same (Nat.le_of_ble_eq_true h3), hk⟩ _ hy
          · cases h2
        split at h2
        · cases h2
        · rename_i e1 tm1 h1 hne heq
          refine xcode_ok ih hm c heq ?_
          cases e1 with
          | normal => exact fin _ _ h2
          | ret => exact fin _ _ h2
          | exit id => first | exact (hne _ rfl).elim | exact absurd rfl (hne _) | simp_all
        · cases h2
def isT : Option (AV × Heap) → Bool
  | some (.val (.bool true), _) => true
  | _ => false
/-- a closed test, run -/
theorem RunsK.test {P f tabs h} {K : AV → Heap → Prop} (n : Nat) (hm : P.follows .mixedOrders = true) (hN : P.funcs.all (fun fn => !(fn.name == "runtime.NumGoroutine")) = true)
    (e : isT (xrun P tabs n f [] []) = true) (hk : K (.val (.bool true)) h) : RunsK P f [] h K := by
  refine RunsK.borrow (r := .val (.bool true)) (.val _) (?_ : RunsK P f [] [] (fun a _ => a = .val (.bool true))) .nil hk
  unfold isT at e
  split at e
  · rename_i heq
    exact xrun_ok hm hN n _ _ _ _ _ heq _ rfl
  · cases e
end Go.Am
