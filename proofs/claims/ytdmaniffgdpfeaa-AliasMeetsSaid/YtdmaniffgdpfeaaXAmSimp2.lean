/- A part of the proof that AliasThings and AliasMeets return true for every module: texts on an abstract reading of the code (AmSimp2). -/
import Derived.Test.YtdmaniffgdpfeaaXAmFrz
set_option linter.unusedVariables false
set_option linter.unusedSimpArgs false
set_option linter.unusedSectionVars false
set_option linter.unusedVariables false
namespace Go.Am
open Go
section
variable {P : Program} {ops : List Oper} {rest : List Stp} {tm : List AV} {h : Heap} {pend : Pend} {K : KO} {i : Nat}
theorem adr_nil : adr P ops [] tm h pend K = K tm h := by simp [adr]
def kQ (P : Program) (ops : List Oper) (rest : List Stp) (i : Nat) (o : Oper) (tm : List AV) (dst : Option Tmp) (pend : Pend) (K : KO) : AV → Heap → Prop := fun v h => adr P ops rest (put tm dst v) h (pendOf i o tm v ++ pend) K
theorem kQ_eq {o dst v} : kQ P ops rest i o tm dst pend K v h = adr P ops rest (put tm dst v) h (pendOf i o tm v ++ pend) K := nr rfl
def kC (P : Program) (ops : List Oper) (rest : List Stp) (re : List Nat) (tm : List AV) (dst : Option Tmp) (pend : Pend) (K : KO) : AV → Heap → Prop := fun v h => recheck P h pend re ∧ adr P ops rest (put tm dst v) h pend K
theorem kC_eq {re dst v} : kC P ops rest re tm dst pend K v h = (recheck P h pend re ∧ adr P ops rest (put tm dst v) h pend K) := nr rfl
def tQ (P : Program) (ops : List Oper) (rest : List Stp) (i : Nat) (o : Oper) (tm : List AV) (h : Heap) (pend : Pend) (K : KO) : Unit → Prop := fun _ => aop P o tm h (kQ P ops rest i o tm o.dst pend K)
def tC (P : Program) (ops : List Oper) (rest : List Stp) (re : List Nat) (o : Oper) (tm : List AV) (h : Heap) (pend : Pend) (K : KO) : Unit → Prop := fun _ => aop P o tm h (kC P ops rest re tm o.dst pend K)
def tS (P : Program) (ops : List Oper) (rest : List Stp) (tm : List AV) (dst : Option Tmp) (h : Heap) (pend : Pend) (K : KO) : Unit → Prop := fun _ => adr P ops rest (put tm dst (.tup [])) h pend K
theorem tQ_eq {dst op type pos after guard} : tQ P ops rest i { dst, op, type, pos, after, guard } tm h pend K () = aop P { dst, op, type, pos, after, guard } tm h (kQ P ops rest i { dst, op, type, pos, after, guard } tm dst pend K) := nr rfl
theorem tC_eq {re dst op type pos after guard} : tC P ops rest re { dst, op, type, pos, after, guard } tm h pend K () = aop P { dst, op, type, pos, after, guard } tm h (kC P ops rest re tm dst pend K) := nr rfl
theorem tS_eq {dst} : tS P ops rest tm dst h pend K () = adr P ops rest (put tm dst (.tup [])) h pend K := nr rfl
def gQ (P : Program) (ops : List Oper) (rest : List Stp) (i : Nat) (o : Oper) (tm : List AV) (h : Heap) (pend : Pend) (K : KO) (want : Bool) : Option Tmp → Prop
  | none => False
  | some d => agd want (tQ P ops rest i o (tm.set d (.val (.bool want))) h pend K) (tS P ops rest (tm.set d (.val (.bool !want))) o.dst h pend K) (tS P ops rest tm o.dst h pend K) (tm.getD d (.tup []))
theorem gQ_some {dst op type pos after guard want d} : gQ P ops rest i { dst, op, type, pos, after, guard } tm h pend K want (some d) = agd want (tQ P ops rest i { dst, op, type, pos, after, guard } (tm.set d (.val (.bool want))) h pend K) (tS P ops rest (tm.set d (.val (.bool !want))) dst h pend K) (tS P ops rest tm dst h pend K) (tm.getD d (.tup [])) := nr rfl
def gC (P : Program) (ops : List Oper) (rest : List Stp) (re : List Nat) (o : Oper) (tm : List AV) (h : Heap) (pend : Pend) (K : KO) (want : Bool) : Option Tmp → Prop
  | none => False
  | some d => agd want (tC P ops rest re o (tm.set d (.val (.bool want))) h pend K) (tS P ops rest (tm.set d (.val (.bool !want))) o.dst h pend K) (tS P ops rest tm o.dst h pend K) (tm.getD d (.tup []))
theorem gC_some {re dst op type pos after guard want d} : gC P ops rest re { dst, op, type, pos, after, guard } tm h pend K want (some d) = agd want (tC P ops rest re { dst, op, type, pos, after, guard } (tm.set d (.val (.bool want))) h pend K) (tS P ops rest (tm.set d (.val (.bool !want))) dst h pend K) (tS P ops rest tm dst h pend K) (tm.getD d (.tup [])) := nr rfl
def oQ (P : Program) (ops : List Oper) (rest : List Stp) (i : Nat) (tm : List AV) (h : Heap) (pend : Pend) (K : KO) : Option Oper → Prop
  | none => False
  | some o => match o.guard with
    | none => aop P o tm h (kQ P ops rest i o tm o.dst pend K)
    | some (j, want) => gQ P ops rest i o tm h pend K want (guardTmp ops j)
theorem oQ_plain {dst op type pos after} : oQ P ops rest i tm h pend K (some { dst, op, type, pos, after, guard := none }) = aop P { dst, op, type, pos, after, guard := none } tm h (kQ P ops rest i { dst, op, type, pos, after, guard := none } tm dst pend K) := nr rfl
theorem oQ_guard {dst op type pos after j want} : oQ P ops rest i tm h pend K (some { dst, op, type, pos, after, guard := some (j, want) }) = gQ P ops rest i { dst, op, type, pos, after, guard := some (j, want) } tm h pend K want (guardTmp ops j) := nr rfl
def oC (P : Program) (ops : List Oper) (rest : List Stp) (re : List Nat) (tm : List AV) (h : Heap) (pend : Pend) (K : KO) : Option Oper → Prop
  | none => False
  | some o => match o.guard with
    | none => aop P o tm h (kC P ops rest re tm o.dst pend K)
    | some (j, want) => gC P ops rest re o tm h pend K want (guardTmp ops j)
theorem oC_plain {re dst op type pos after} : oC P ops rest re tm h pend K (some { dst, op, type, pos, after, guard := none }) = aop P { dst, op, type, pos, after, guard := none } tm h (kC P ops rest re tm dst pend K) := nr rfl
theorem oC_guard {re dst op type pos after j want} : oC P ops rest re tm h pend K (some { dst, op, type, pos, after, guard := some (j, want) }) = gC P ops rest re { dst, op, type, pos, after, guard := some (j, want) } tm h pend K want (guardTmp ops j) := nr rfl
theorem adr_q : adr P ops (.q i :: rest) tm h pend K = oQ P ops rest i tm h pend K (ops[i]?) := by
  conv => lhs; unfold adr
  cases ops[i]? with
  | none => rfl
  | some o =>
    obtain ⟨dst, op, type, pos, after, guard⟩ := o
    cases guard with
    | none => rfl
    | some g =>
      obtain ⟨j, want⟩ := g
      simp only [oQ, gQ]
      cases guardTmp ops j <;> rfl
theorem adr_c {re} : adr P ops (.c i re :: rest) tm h pend K = oC P ops rest re tm h pend K (ops[i]?) := by
  conv => lhs; unfold adr
  cases ops[i]? with
  | none => rfl
  | some o =>
    obtain ⟨dst, op, type, pos, after, guard⟩ := o
    cases guard with
    | none => rfl
    | some g =>
      obtain ⟨j, want⟩ := g
      simp only [oC, gC]
      cases guardTmp ops j <;> rfl
section
variable {dst : Option Tmp} {type : TypeId} {pos : String} {after : Array Edge} {guard : Option (Nat × Bool)} {v : AV}
theorem pend_load {t x} : pendOf i { dst, op := .load t x, type, pos, after, guard } tm v = [(i, t, rho tm x, v)] := nr rfl
theorem pend_move {x} : pendOf i { dst, op := .move x, type, pos, after, guard } tm v = [] := nr rfl
theorem pend_assign {x} : pendOf i { dst, op := .assign x, type, pos, after, guard } tm v = [] := nr rfl
theorem pend_pick {a b c} : pendOf i { dst, op := .pick a b c, type, pos, after, guard } tm v = [] := nr rfl
theorem pend_field {a b c} : pendOf i { dst, op := .fieldAddr a b c, type, pos, after, guard } tm v = [] := nr rfl
theorem pend_index {a b c} : pendOf i { dst, op := .indexAddr a b c, type, pos, after, guard } tm v = [] := nr rfl
theorem pend_bin {a b c d e} : pendOf i { dst, op := .binOp a b c d e, type, pos, after, guard } tm v = [] := nr rfl
theorem pend_un {a b c} : pendOf i { dst, op := .unOp a b c, type, pos, after, guard } tm v = [] := nr rfl
theorem pend_conv {a b c} : pendOf i { dst, op := .convert a b c, type, pos, after, guard } tm v = [] := nr rfl
theorem pend_nil {a} : pendOf i { dst, op := .nilCheck a, type, pos, after, guard } tm v = [] := nr rfl
theorem pend_build {a b} : pendOf i { dst, op := .build a b, type, pos, after, guard } tm v = [] := nr rfl
theorem pend_slice {a b c d e} : pendOf i { dst, op := .slice a b c d e, type, pos, after, guard } tm v = [] := nr rfl
theorem pend_func {a b c} : pendOf i { dst, op := .makeFunc a b c, type, pos, after, guard } tm v = [] := nr rfl
theorem pend_ext {a b} : pendOf i { dst, op := .extract a b, type, pos, after, guard } tm v = [] := nr rfl
theorem pend_alloc {t} : pendOf i { dst, op := .alloc t, type, pos, after, guard } tm v = [(i, t, .tup [], v)] := nr rfl
theorem pend_call {c} : pendOf i { dst, op := .call c, type, pos, after, guard } tm v = [] := nr rfl
end
def rck1 (P : Program) (h : Heap) (t : TypeId) (a v : AV) : Prop := chk1 P t h v a
theorem rck1_ptr {t o sz i k p v} : rck1 P h t (.ptr o sz i k p) v = aload P t h (sameV v) (.ptr o sz i k p) := nr rfl
theorem rck1_iptr {t y v} : rck1 P h t (.iptr y) v = aload P t h (sameV v) (.iptr y) := nr rfl
theorem rck1_new {t o sz i k p} : rck1 P h t (.tup []) (.ptr o sz i k p) = keptZ h o t (zAV P t) := nr rfl
theorem keptZ_some {t o z} : keptZ h o t (some z) = (h[o]? = some (some (.arr t (flat z).length [z]))) := nr rfl
theorem sameV_eq {v v'} : sameV v v' h = (v' = v) := nr rfl
def rck (P : Program) (h : Heap) (j : Nat) : Pend → Prop
  | [] => True
  | p :: ps => (if p.1 = j then rck1 P h p.2.1 p.2.2.1 p.2.2.2 else True) ∧ rck P h j ps
theorem rck_nil {j} : rck P h j [] = True := nr rfl
theorem rck_cons {j k t a v ps} : rck P h j ((k, t, a, v) :: ps) = ((if k = j then rck1 P h t a v else True) ∧ rck P h j ps) := nr rfl
theorem recheck_nil : recheck P h pend [] = True := nr rfl
theorem recheck_cons {j js} : recheck P h pend (j :: js) = (rck P h j pend ∧ recheck P h pend js) := by
  have : ∀ pend : Pend, (∀ p ∈ pend, p.1 = j → chk1 P p.2.1 h p.2.2.2 p.2.2.1) = rck P h j pend := by
    intro pend
    induction pend with
    | nil => simp [rck]
    | cons p ps ih =>
      rw [rck, ← ih]
      simp only [List.mem_cons, forall_eq_or_imp, rck1]
      congr 1
      by_cases e : p.1 = j <;> simp [e]
  rw [recheck, this]
end
attribute [go_sem] adr_nil kQ_eq kC_eq tQ_eq tC_eq tS_eq gQ_some gC_some oQ_plain oQ_guard oC_plain oC_guard adr_q adr_c pend_load pend_move pend_assign pend_pick pend_field pend_index pend_bin pend_un pend_conv pend_nil pend_build pend_slice pend_func pend_ext pend_call pend_alloc rck1_ptr rck1_iptr rck1_new keptZ_some sameV_eq rck_nil rck_cons recheck_nil recheck_cons
theorem aw_drawn {P : Program} {id : Nat} {ops : List Oper} {tm : List AV} {h : Heap} {K : Kont} (steps : List Stp) (hm : P.follows .mixedOrders = true) (hchk : chk ⟨ops⟩ steps = true) (hk : adr P ops steps tm h [] (K .normal)) : aw P (.region id ⟨ops⟩ true) tm h K := by
  rw [aw_draw]
  exact ADraw.intro hm hchk hk
end Go.Am
