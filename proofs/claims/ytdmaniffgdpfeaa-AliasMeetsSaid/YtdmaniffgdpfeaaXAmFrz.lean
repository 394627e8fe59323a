/- A part of the proof that AliasThings and AliasMeets return true for every module: texts on an abstract reading of the code (AmSimp, AmSet, AmFrz). -/
import Derived.Test.YtdmaniffgdpfeaaXAmDraw5
set_option linter.unusedVariables false
set_option linter.unusedSimpArgs false
set_option linter.unusedSectionVars false
set_option linter.unusedVariables false
namespace Go.Am
open Go
section
variable {P : Program} {tm : List AV} {h : Heap} {K : AV → Heap → Prop} {dst : Option Tmp} {type : TypeId} {pos : String} {after : Array Edge} {guard : Option (Nat × Bool)}
theorem aop_move {x} : aop P { dst, op := .move x, type, pos, after, guard } tm h K = K (rho tm x) h := nr rfl
theorem aop_assign {x} : aop P { dst, op := .assign x, type, pos, after, guard } tm h K = K (rho tm x) h := nr rfl
theorem aop_pick {c a b} : aop P { dst, op := .pick c a b, type, pos, after, guard } tm h K = apick h (rho tm a) (rho tm b) K (rho tm c) := nr rfl
theorem aop_fieldAddr {s x f} : aop P { dst, op := .fieldAddr s x f, type, pos, after, guard } tm h K = afield P s f h K (rho tm x) := nr rfl
theorem aop_indexAddr {t x i} : aop P { dst, op := .indexAddr t x i, type, pos, after, guard } tm h K = aindex P t h K (rho tm x) (rho tm i) := nr rfl
theorem aop_load {t x} : aop P { dst, op := .load t x, type, pos, after, guard } tm h K = aload P t h K (rho tm x) := nr rfl
theorem aop_store {t x v} : aop P { dst, op := .store t x v, type, pos, after, guard } tm h K = astore P t h (rho tm v) K (rho tm x) := nr rfl
theorem aop_binOp {op t x y u} : aop P { dst, op := .binOp op t x y u, type, pos, after, guard } tm h K = abin P t op h K (rho tm x) (rho tm y) := nr rfl
theorem aop_not {t x} : aop P { dst, op := .unOp .not t x, type, pos, after, guard } tm h K = anot h K (rho tm x) := nr rfl
theorem aop_neg {t x} : aop P { dst, op := .unOp .neg t x, type, pos, after, guard } tm h K = aneg h K (rho tm x) := nr rfl
theorem aop_convert {s d x} : aop P { dst, op := .convert s d x, type, pos, after, guard } tm h K = aconv P s d h K (rho tm x) := nr rfl
theorem aop_nilCheck {x} : aop P { dst, op := .nilCheck x, type, pos, after, guard } tm h K = anil h (rho tm x) K := nr rfl
theorem aop_box {e x} : aop P { dst, op := .box e x, type, pos, after, guard } tm h K = abox e h K (rho tm x) := nr rfl
theorem aop_alloc {e} : aop P { dst, op := .alloc e, type, pos, after, guard } tm h K = aalloc P e h K := nr rfl
def pval (tm : List AV) (p : Nat × Operand) : Nat × AV := (p.1, rho tm p.2)
theorem pval_mk {n x} : pval tm (n, x) = (n, rho tm x) := nr rfl
def rho2 (tm : List AV) (p : Nat × Operand) : AV := rho tm p.2
theorem rho2_mk {n x} : rho2 tm (n, x) = rho tm x := nr rfl
def fstN (p : Nat × Operand) : Nat := p.1
theorem fstN_mk {n x} : fstN (n, x) = n := nr rfl
theorem aop_build {t ps} : aop P { dst, op := .build t ⟨ps⟩, type, pos, after, guard } tm h K = abuild P t h K (ps.map (pval tm)) := nr rfl
theorem aop_buildSlice {t n ps} : aop P { dst, op := .buildSlice t n ⟨ps⟩, type, pos, after, guard } tm h K = abuildSlice P t n h K (ps.map fstN) (ps.map (rho2 tm)) := nr rfl
theorem aop_makeSlice {t l c} : aop P { dst, op := .makeSlice t l c, type, pos, after, guard } tm h K = amake P t h K (rho tm l) (rho tm c) := nr rfl
def orho (tm : List AV) : Option Operand → Option AV
  | some x => some (rho tm x)
  | none => none
theorem orho_some {x} : orho tm (some x) = some (rho tm x) := nr rfl
theorem orho_none : orho tm none = none := nr rfl
theorem aop_slice {t x lo hi mx} : aop P { dst, op := .slice t x lo hi mx, type, pos, after, guard } tm h K = aslice P t h K (orho tm lo) (orho tm hi) (orho tm mx) (rho tm x) := by
  cases lo <;> cases hi <;> cases mx <;> rfl
theorem aop_makeFunc {f xs ys} : aop P { dst, op := .makeFunc f ⟨xs⟩ ⟨ys⟩, type, pos, after, guard } tm h K = K (.fn f (xs.map (rho tm)) (ys.map (rho tm))) h := nr rfl
theorem aop_extract {x i} : aop P { dst, op := .extract x i, type, pos, after, guard } tm h K = aext h i K (rho tm x) := nr rfl
theorem aop_builtin {b as ts} : aop P { dst, op := .call { callee := .builtin b, args := ⟨as⟩, argTypes := ⟨ts⟩ }, type, pos, after, guard } tm h K = abuiltin P b ts h (as.map (rho tm)) K := nr rfl
theorem aop_call {f as ts} : aop P { dst, op := .call { callee := .value f, args := ⟨as⟩, argTypes := ts }, type, pos, after, guard } tm h K = acall P h (as.map (rho tm)) K (rho tm f) := nr rfl
theorem rho_tmp {t} : rho tm (.tmp t) = tm.getD t (.tup []) := nr rfl
theorem rho_int {k n} : rho tm (.const (.int k n)) = .val (.int k n) := nr rfl
theorem rho_bool {b} : rho tm (.const (.bool b)) = .val (.bool b) := nr rfl
theorem rho_nils : rho tm (.const (.slice none 0 0)) = .val (.slice none 0 0) := nr rfl
theorem rho_nilp : rho tm (.const (.pointer none)) = .val (.pointer none) := nr rfl
theorem rho_nilm : rho tm (.const (.map none)) = .val (.map none) := nr rfl
theorem rho_nilf : rho tm (.const .nilFunc) = .val .nilFunc := nr rfl
theorem rho_nili : rho tm (.const .nilIface) = .val .nilIface := nr rfl
theorem rho_str {s} : rho tm (.const (.string s)) = .val (.string s) := nr rfl
theorem rho_func {f} : rho tm (.func f) = .fn (.func f) [] [] := nr rfl
theorem put_some {d v} : put tm (some d) v = tm.set d v := nr rfl
theorem put_none {v} : put tm none v = tm := nr rfl
theorem abuiltin_len {t x} : abuiltin P .len [t] h [x] K = ((slElem P t).isSome = true ∧ alen h K x) := nr rfl
theorem abuiltin_cap {t x} : abuiltin P .cap [t] h [x] K = ((slElem P t).isSome = true ∧ acap h K x) := nr rfl
theorem abuiltin_append {ts s x} : abuiltin P .append ts h [s, x] K = aapp P ts h K s x := nr rfl
-- fields
def afieldP (o sz i k : Nat) (p : List Nat) (f : Nat) (h : Heap) (K : AV → Heap → Prop) : Option Nat → Prop
  | some n => K (.ptr o sz i (k + n) (p ++ [f])) h
  | none => False
theorem afieldP_some {o sz i k p f n} : afieldP o sz i k p f h K (some n) = K (.ptr o sz i (k + n) (p ++ [f])) h := nr rfl
theorem afield_ptr {s f o sz i k p} : afield P s f h K (.ptr o sz i k p) = afieldP o sz i k p f h K (fOff P s f) := by
  unfold afield afieldP; cases fOff P s f <;> rfl
def afieldI (xs : List AV) (f : Nat) (h : Heap) (K : AV → Heap → Prop) : Option Nat → Option AV → Prop
  | some n, some y => (flats (xs.take f)).length = n ∧ K (.iptr y) h
  | _, _ => False
theorem afieldI_some {xs f n y} : afieldI xs f h K (some n) (some y) = ((flats (xs.take f)).length = n ∧ K (.iptr y) h) := nr rfl
theorem afield_iptr {s f xs} : afield P s f h K (.iptr (.agg xs)) = afieldI xs f h K (fOff P s f) (xs[f]?) := by
  simp only [afield]; unfold afieldI; cases fOff P s f <;> cases xs[f]? <;> rfl
-- loads, stores
def aloadY (P : Program) (t : TypeId) (h : Heap) (K : AV → Heap → Prop) : Option AV → Prop
  | some y => shapeOk P t y ∧ K y h
  | none => False
theorem aloadY_some {t y} : aloadY P t h K (some y) = (shapeOk P t y ∧ K y h) := nr rfl
def aloadO (P : Program) (t : TypeId) (h : Heap) (K : AV → Heap → Prop) (sz i k : Nat) (p : List Nat) : Option (Option AObj) → Prop
  | some (some (.arr _ s xs)) => s = sz ∧ i < xs.length ∧ (xs.getD i .any).offs p = some k ∧ aloadY P t h K ((xs.getD i .any).sub p)
  | _ => False
theorem aloadO_arr {t sz i k p e s xs} : aloadO P t h K sz i k p (some (some (.arr e s xs))) = (s = sz ∧ i < xs.length ∧ (xs.getD i .any).offs p = some k ∧ aloadY P t h K ((xs.getD i .any).sub p)) := nr rfl
theorem aload_ptr' {t o sz i k p} : aload P t h K (.ptr o sz i k p) = aloadO P t h K sz i k p (h[o]?) := by
  simp only [aload]
  generalize h[o]? = r
  rcases r with _ | _ | ⟨e, s, xs⟩ | kvs <;> try rfl
def astoreZ (h : Heap) (K : AV → Heap → Prop) (o e s : Nat) (xs : List AV) (i : Nat) : Option AV → Prop
  | some z => K (.tup []) (h.set o (some (.arr e s (xs.set i z))))
  | none => False
theorem astoreZ_some {o e s xs i z} : astoreZ h K o e s xs i (some z) = K (.tup []) (h.set o (some (.arr e s (xs.set i z)))) := nr rfl
def astoreY (P : Program) (t : TypeId) (h : Heap) (v : AV) (K : AV → Heap → Prop) (o e s : Nat) (xs : List AV) (i : Nat) (p : List Nat) : Option AV → Prop
  | some y => ((P.info? t).isSome = true ∧ szOf P t ≠ 0) ∧ (flat v).length = szOf P t ∧ (flat y).length = szOf P t ∧ storable v = true ∧ astoreZ h K o e s xs i ((xs.getD i .any).upd p v)
  | none => False
theorem astoreY_some {t v o e s xs i p y} : astoreY P t h v K o e s xs i p (some y) = (((P.info? t).isSome = true ∧ szOf P t ≠ 0) ∧ (flat v).length = szOf P t ∧ (flat y).length = szOf P t ∧ storable v = true ∧ astoreZ h K o e s xs i ((xs.getD i .any).upd p v)) := nr rfl
def astoreO (P : Program) (t : TypeId) (h : Heap) (v : AV) (K : AV → Heap → Prop) (o sz i k : Nat) (p : List Nat) : Option (Option AObj) → Prop
  | some (some (.arr e s xs)) => s = sz ∧ i < xs.length ∧ (xs.getD i .any).offs p = some k ∧ astoreY P t h v K o e s xs i p ((xs.getD i .any).sub p)
  | _ => False
theorem astoreO_arr {t v o sz i k p e s xs} : astoreO P t h v K o sz i k p (some (some (.arr e s xs))) = (s = sz ∧ i < xs.length ∧ (xs.getD i .any).offs p = some k ∧ astoreY P t h v K o e s xs i p ((xs.getD i .any).sub p)) := nr rfl
theorem astore_ptr {t v o sz i k p} : astore P t h v K (.ptr o sz i k p) = astoreO P t h v K o sz i k p (h[o]?) := by
  simp only [astore]
  generalize h[o]? = r
  rcases r with _ | _ | ⟨e, s, xs⟩ | kvs <;> try rfl
theorem sub_nil {x : AV} : x.sub [] = some x := by cases x <;> rfl
def subO (p : List Nat) : Option AV → Option AV
  | some y => y.sub p
  | none => none
theorem subO_some {p y} : subO p (some y) = y.sub p := nr rfl
theorem sub_agg {xs f p} : (AV.agg xs).sub (f :: p) = subO p (xs[f]?) := by rw [AV.sub]; cases xs[f]? <;> rfl
theorem offs_nil {x : AV} : x.offs [] = some 0 := by cases x <;> rfl
def offsO (n : Nat) : Option Nat → Option Nat
  | some r => some (n + r)
  | none => none
theorem offsO_some {n r} : offsO n (some r) = some (n + r) := nr rfl
def offsY (n : Nat) (p : List Nat) : Option AV → Option Nat
  | some y => offsO n (y.offs p)
  | none => none
theorem offsY_some {n p y} : offsY n p (some y) = offsO n (y.offs p) := nr rfl
theorem offs_agg {xs f p} : (AV.agg xs).offs (f :: p) = offsY (flats (xs.take f)).length p (xs[f]?) := by
  rw [AV.offs]; cases xs[f]? with
  | none => rfl
  | some y => simp only [offsY]; cases y.offs p <;> rfl
theorem upd_nil {x v : AV} : x.upd [] v = some v := by cases x <;> rfl
def updO (xs : List AV) (f : Nat) : Option AV → Option AV
  | some y => some (.agg (xs.set f y))
  | none => none
theorem updO_some {xs f y} : updO xs f (some y) = some (.agg (xs.set f y)) := nr rfl
def updY (xs : List AV) (f : Nat) (p : List Nat) (v : AV) : Option AV → Option AV
  | some y => updO xs f (y.upd p v)
  | none => none
theorem updY_some {xs f p v y} : updY xs f p v (some y) = updO xs f (y.upd p v) := nr rfl
theorem upd_agg {xs f p v} : (AV.agg xs).upd (f :: p) v = updY xs f p v (xs[f]?) := by
  rw [AV.upd]; cases xs[f]? with
  | none => rfl
  | some y => simp only [updY]; cases y.upd p v <;> rfl
-- shapes
theorem shape_val {t v} : shapeOk P t (.val v) = (isAggB P t = some false) := nr rfl
theorem shape_il {t s xs} : shapeOk P t (.il s xs) = (isAggB P t = some false) := nr rfl
theorem shape_sl {t a b c d e} : shapeOk P t (.sl a b c d e) = (isAggB P t = some false) := nr rfl
theorem shape_ptr {t a b c d e} : shapeOk P t (.ptr a b c d e) = (isAggB P t = some false) := nr rfl
theorem shape_iptr {t x} : shapeOk P t (.iptr x) = (isAggB P t = some false) := nr rfl
theorem shape_fn {t a b c} : shapeOk P t (.fn a b c) = (isAggB P t = some false) := nr rfl
theorem shape_emp {t} : shapeOk P t .emp = (isAggB P t = some false) := nr rfl
theorem shape_mp {t o} : shapeOk P t (.mp o) = (isAggB P t = some false) := nr rfl
theorem shape_agg {t ys} : shapeOk P t (.agg ys) = (isAggB P t = some true ∧ (flats ys).length = szOf P t) := nr rfl
-- flats
theorem flat_val {v} : flat (.val v) = [.val v] := by simp [flat]
theorem flat_il {s xs} : flat (.il s xs) = [.il s xs] := by simp [flat]
theorem flat_sl {a b c d e} : flat (.sl a b c d e) = [.sl a b c d e] := by simp [flat]
theorem flat_ptr {a b c d e} : flat (.ptr a b c d e) = [.ptr a b c d e] := by simp [flat]
theorem flat_iptr {x} : flat (.iptr x) = [.iptr x] := by simp [flat]
theorem flat_fn {a b c} : flat (.fn a b c) = [.fn a b c] := by simp [flat]
theorem flat_emp : flat .emp = [.emp] := by simp [flat]
theorem flat_mp {o} : flat (.mp o) = [.mp o] := by simp [flat]
theorem flat_agg {xs} : flat (.agg xs) = flats xs := by simp [flat]
theorem flats_nil : flats [] = [] := by simp [flats]
theorem flats_cons {x xs} : flats (x :: xs) = flat x ++ flats xs := by simp [flats]
def sto (l : List AV) : Bool := l.all leafOk
theorem storable_eq {x} : storable x = sto (flat x) := nr rfl
theorem sto_nil : sto [] = true := nr rfl
theorem sto_val {v l} : sto (.val v :: l) = sto l := by simp [sto, leafOk]
theorem sto_il {s xs l} : sto (.il s xs :: l) = sto l := by simp [sto, leafOk]
theorem sto_sl {a b c d e l} : sto (.sl a b c d e :: l) = sto l := by simp [sto, leafOk]
theorem sto_ptr {a b c d e l} : sto (.ptr a b c d e :: l) = sto l := by simp [sto, leafOk]
theorem sto_iptr {x l} : sto (.iptr x :: l) = sto l := by simp [sto, leafOk]
theorem sto_fn {a b c l} : sto (.fn a b c :: l) = sto l := by simp [sto, leafOk]
theorem sto_emp {l} : sto (.emp :: l) = sto l := by simp [sto, leafOk]
theorem sto_mp {o l} : sto (.mp o :: l) = sto l := by simp [sto, leafOk]
theorem sto_app {a b} : sto (a ++ b) = (sto a && sto b) := by simp [sto]
-- convert
def aconvK (n : Int) (h : Heap) (K : AV → Heap → Prop) : Option IntKind → Option IntKind → Prop
  | some _, some k => K (.val (.int k (k.wrap n))) h
  | _, _ => False
theorem aconvK_some {n k k'} : aconvK n h K (some k') (some k) = K (.val (.int k (k.wrap n))) h := nr rfl
theorem aconv_int {s d k n} : aconv P s d h K (.val (.int k n)) = aconvK n h K (intOf P s) (intOf P d) := by
  unfold aconv aconvK; cases intOf P s <;> cases intOf P d <;> rfl
-- alloc
def aallocZ (e : TypeId) (h : Heap) (K : AV → Heap → Prop) : Option AV → Prop
  | some z => K (.ptr h.length (flat z).length 0 0 []) (h ++ [some (.arr e (flat z).length [z])])
  | none => False
theorem aallocZ_some {e z} : aallocZ e h K (some z) = K (.ptr h.length (flat z).length 0 0 []) (h ++ [some (.arr e (flat z).length [z])]) := nr rfl
theorem aalloc_eq {e} : aalloc P e h K = aallocZ e h K (zAV P e) := by unfold aalloc aallocZ; cases zAV P e <;> rfl
theorem abox_eq {e x} : abox e h K x = (storable x = true ∧ K (.ptr h.length (flat x).length 0 0 []) (h ++ [some (.arr e (flat x).length [x])])) := nr rfl
-- build
def abuildZ (h : Heap) (K : AV → Heap → Prop) (ps : List (Nat × AV)) : Option (List AV) → Prop
  | some zs => abuildGo h K zs ps
  | none => False
theorem abuildZ_some {ps zs} : abuildZ h K ps (some zs) = abuildGo h K zs ps := nr rfl
theorem abuild_eq {t ps} : abuild P t h K ps = abuildZ h K ps (bAV P t) := by unfold abuild abuildZ; cases bAV P t <;> rfl
theorem abuildGo_nil {zs} : abuildGo h K zs [] = K (.agg zs) h := by simp [abuildGo]
def lenO : Option AV → Option Nat
  | some z => some (flat z).length
  | none => none
theorem lenO_some {z} : lenO (some z) = some (flat z).length := nr rfl
theorem abuildGo_cons {zs i x r} : abuildGo h K zs ((i, x) :: r) = ((partOk x = true ∧ lenO (zs[i]?) = some (flat x).length) ∧ abuildGo h K (zs.set i x) r) := by
  conv => lhs; unfold abuildGo
  cases zs[i]? <;> rfl
theorem partOk_val {v} : partOk (.val v) = true := nr rfl
theorem partOk_il {s xs} : partOk (.il s xs) = true := nr rfl
theorem partOk_sl {a b c d e} : partOk (.sl a b c d e) = true := nr rfl
theorem partOk_ptr {a b c d e} : partOk (.ptr a b c d e) = true := nr rfl
theorem partOk_iptr {x} : partOk (.iptr x) = true := nr rfl
theorem partOk_fn {a b c} : partOk (.fn a b c) = true := nr rfl
theorem partOk_emp : partOk .emp = true := nr rfl
theorem partOk_agg {xs} : partOk (.agg xs) = true := nr rfl
def abuildS (P : Program) (len : Nat) (h : Heap) (K : AV → Heap → Prop) (is : List Nat) (xs : List AV) : Option TypeId → Prop
  | some e => (is = List.range len ∧ len * szOf P e ≤ 16777216 ∧ (zAV P e).isSome = true ∧ allOk (szOf P e) xs) ∧
      K (.sl h.length (szOf P e) 0 len (some len)) (h ++ [some (.arr e (szOf P e) xs)])
  | none => False
theorem abuildS_some {len is xs e} : abuildS P len h K is xs (some e) = ((is = List.range len ∧ len * szOf P e ≤ 16777216 ∧ (zAV P e).isSome = true ∧ allOk (szOf P e) xs) ∧
      K (.sl h.length (szOf P e) 0 len (some len)) (h ++ [some (.arr e (szOf P e) xs)])) := nr rfl
theorem abuildSlice_eq {t len is xs} : abuildSlice P t len h K is xs = abuildS P len h K is xs (slElem P t) := by unfold abuildSlice abuildS; cases slElem P t <;> rfl
theorem allOk_nil {sz} : allOk sz [] = True := nr rfl
theorem allOk_cons {sz x xs} : allOk sz (x :: xs) = (((flat x).length = sz ∧ storable x = true) ∧ allOk sz xs) := by simp [allOk]
def amakeZ (P : Program) (a b : Int) (e : TypeId) (h : Heap) (K : AV → Heap → Prop) : Option AV → Prop
  | some z => (a = b ∧ 0 ≤ a ∧ ARoom a.toNat (P.bytesOf e)) ∧ K (.sl h.length (szOf P e) 0 a.toNat (some a.toNat)) (h ++ [some (.arr e (szOf P e) (List.replicate a.toNat z))])
  | none => False
theorem amakeZ_some {a b e z} : amakeZ P a b e h K (some z) = ((a = b ∧ 0 ≤ a ∧ ARoom a.toNat (P.bytesOf e)) ∧ K (.sl h.length (szOf P e) 0 a.toNat (some a.toNat)) (h ++ [some (.arr e (szOf P e) (List.replicate a.toNat z))])) := nr rfl
def amakeE (P : Program) (a b : Int) (h : Heap) (K : AV → Heap → Prop) : Option TypeId → Prop
  | some e => amakeZ P a b e h K (zAV P e)
  | none => False
theorem amakeE_some {a b e} : amakeE P a b h K (some e) = amakeZ P a b e h K (zAV P e) := nr rfl
theorem amake_int {t k k' a b} : amake P t h K (.val (.int k a)) (.val (.int k' b)) = amakeE P a b h K (slElem P t) := by
  unfold amake amakeE; cases slElem P t with
  | none => rfl
  | some e => simp only [amakeZ]; cases zAV P e <;> rfl
-- append
def aappY (P : Program) (e : TypeId) (h : Heap) (K : AV → Heap → Prop) (s : AV) : Option (List AV) → Prop
  | some ys => (zAV P e).isSome = true ∧ aappGo P e h K ys s
  | none => False
theorem aappY_some {e s ys} : aappY P e h K s (some ys) = ((zAV P e).isSome = true ∧ aappGo P e h K ys s) := nr rfl
def aappE (P : Program) (h : Heap) (K : AV → Heap → Prop) (s x : AV) : Option TypeId → Option TypeId → Prop
  | some e, some _ => aappY P e h K s (elems h (szOf P e) x)
  | _, _ => False
theorem aappE_some {s x e e'} : aappE P h K s x (some e) (some e') = aappY P e h K s (elems h (szOf P e) x) := nr rfl
theorem aapp_eq {t u s x} : aapp P [t, u] h K s x = aappE P h K s x (slElem P t) (slElem P u) := by
  simp only [aapp]
  generalize slElem P t = a
  generalize slElem P u = b
  rcases a with _ | e <;> rcases b with _ | e' <;> try rfl
theorem AEmp_nil {a b} : AEmp [] a b = a () := by simp [AEmp]
theorem AEmp_cons {x xs a b} : AEmp (x :: xs) a b = b () := by simp [AEmp]
theorem aappGo_nil {e ys} : aappGo P e h K ys (.val (.slice none 0 0)) = (ARoom ys.length (P.bytesOf e) ∧ AEmp ys (tK K (.val (.slice none 0 0)) h) (tK K (.sl h.length (szOf P e) 0 ys.length none) (h ++ [some (.arr e (szOf P e) ys)]))) := nr rfl
theorem aappGo_emp {e ys} : aappGo P e h K ys .emp = (ARoom ys.length (P.bytesOf e) ∧ AEmp ys (tK K .emp h) (tK K (.sl h.length (szOf P e) 0 ys.length none) (h ++ [some (.arr e (szOf P e) ys)]))) := nr rfl
def aappS (P : Program) (e : TypeId) (o len : Nat) (ys : List AV) (h : Heap) (K : AV → Heap → Prop) : Option (List AV) → Option (Option AObj) → Prop
  | some xs, some (some (.arr e' _ _)) => (e' = e ∧ ARoom (len + ys.length) (P.bytesOf e)) ∧ K (.sl h.length (szOf P e) 0 (len + ys.length) none) (h.set o none ++ [some (.arr e (szOf P e) (xs ++ ys))])
  | _, _ => False
theorem aappS_some {e o len ys xs e' s' zs} : aappS P e o len ys h K (some xs) (some (some (.arr e' s' zs))) = ((e' = e ∧ ARoom (len + ys.length) (P.bytesOf e)) ∧ K (.sl h.length (szOf P e) 0 (len + ys.length) none) (h.set o none ++ [some (.arr e (szOf P e) (xs ++ ys))])) := nr rfl
theorem aappGo_sl {e ys o s off len c} : aappGo P e h K ys (.sl o s off len c) = aappS P e o len ys h K (elems h (szOf P e) (.sl o s off len c)) (h[o]?) := by
  unfold aappGo aappS; rfl
theorem elems_nil {sz} : elems h sz (.val (.slice none 0 0)) = some [] := nr rfl
theorem elems_emp {sz} : elems h sz .emp = some [] := nr rfl
theorem elems_il {sz s xs} : elems h sz (.il s xs) = if s = sz ∨ xs = [] then some xs else none := nr rfl
def elemsO (sz s off len : Nat) : Option (Option AObj) → Option (List AV)
  | some (some (.arr _ s' xs)) => if s = sz ∧ s' = sz ∧ off + len ≤ xs.length then some ((xs.drop off).take len) else none
  | _ => none
theorem elemsO_arr {sz s off len e s' xs} : elemsO sz s off len (some (some (.arr e s' xs))) = if s = sz ∧ s' = sz ∧ off + len ≤ xs.length then some ((xs.drop off).take len) else none := nr rfl
theorem elems_sl {sz o s off len c} : elems h sz (.sl o s off len c) = elemsO sz s off len (h[o]?) := by
  unfold elems elemsO; rfl
-- slice
theorem sbound_none {d} : sbound d none = some d := nr rfl
theorem sbound_some {d k n} : sbound d (some (.val (.int k n))) = some n := nr rfl
def asliceI (P : Program) (e : TypeId) (sz : Nat) (xs : List AV) (h : Heap) (K : AV → Heap → Prop) : Option Int → Option Int → Prop
  | some l, some n => szOf P e = sz ∧ ABnd l n xs.length ∧ K (.il sz ((xs.drop l.toNat).take (n.toNat - l.toNat))) h
  | _, _ => False
theorem asliceI_some {e sz xs l n} : asliceI P e sz xs h K (some l) (some n) = (szOf P e = sz ∧ ABnd l n xs.length ∧ K (.il sz ((xs.drop l.toNat).take (n.toNat - l.toNat))) h) := nr rfl
def asliceS (P : Program) (e : TypeId) (o sz off len : Nat) (c : Option Nat) (h : Heap) (K : AV → Heap → Prop) : Option Int → Option Int → Prop
  | some l, some n => szOf P e = sz ∧ ABnd l n len ∧ K (.sl o sz (off + l.toNat) (n.toNat - l.toNat) (c.map (· - l.toNat))) h
  | _, _ => False
theorem asliceS_some {e o sz off len c l n} : asliceS P e o sz off len c h K (some l) (some n) = (szOf P e = sz ∧ ABnd l n len ∧ K (.sl o sz (off + l.toNat) (n.toNat - l.toNat) (c.map (· - l.toNat))) h) := nr rfl
def asliceE (P : Program) (x : AV) (lo hi mx : Option AV) (h : Heap) (K : AV → Heap → Prop) : Option TypeId → Prop
  | some e => match mx with
    | none => match x with
      | .il sz xs => asliceI P e sz xs h K (sbound 0 lo) (sbound xs.length hi)
      | .sl o sz off len c => asliceS P e o sz off len c h K (sbound 0 lo) (sbound len hi)
      | .val (.slice none 0 0) => match sbound 0 lo, sbound 0 hi with
        | some l, some n => l = 0 ∧ n = 0 ∧ K (.val (.slice none 0 0)) h
        | _, _ => False
      | _ => False
    | some (.val (.int _ m)) => match lo, hi with
      | none, some (.val (.int _ n)) => (m = 0 ∧ n = 0) ∧ match x with
        | .il .. | .emp | .val (.slice none 0 0) => K .emp h
        | .sl .. => K .emp h
        | _ => False
      | _, _ => False
    | _ => False
  | none => False
theorem aslice_eq {t lo hi mx x} : aslice P t h K lo hi mx x = asliceE P x lo hi mx h K (slElem P t) := by
  unfold aslice asliceE; cases slElem P t with
  | none => rfl
  | some e =>
    cases mx with
    | some m => rfl
    | none =>
      cases x <;> rfl
theorem asliceE_il {e sz xs lo hi} : asliceE P (.il sz xs) lo hi none h K (some e) = asliceI P e sz xs h K (sbound 0 lo) (sbound xs.length hi) := nr rfl
theorem asliceE_sl {e o sz off len c lo hi} : asliceE P (.sl o sz off len c) lo hi none h K (some e) = asliceS P e o sz off len c h K (sbound 0 lo) (sbound len hi) := nr rfl
theorem asliceE_il0 {e sz xs k k' m n} : asliceE P (.il sz xs) none (some (.val (.int k n))) (some (.val (.int k' m))) h K (some e) = ((m = 0 ∧ n = 0) ∧ K .emp h) := nr rfl
theorem asliceE_emp0 {e k k' m n} : asliceE P .emp none (some (.val (.int k n))) (some (.val (.int k' m))) h K (some e) = ((m = 0 ∧ n = 0) ∧ K .emp h) := nr rfl
theorem asliceE_nil0 {e k k' m n} : asliceE P (.val (.slice none 0 0)) none (some (.val (.int k n))) (some (.val (.int k' m))) h K (some e) = ((m = 0 ∧ n = 0) ∧ K .emp h) := nr rfl
theorem asliceE_sl0 {e k k' m n o sz off len c} : asliceE P (.sl o sz off len c) none (some (.val (.int k n))) (some (.val (.int k' m))) h K (some e) = ((m = 0 ∧ n = 0) ∧ K .emp h) := nr rfl
theorem acap_emp : acap h K .emp = K (.val (.int .i64 0)) h := nr rfl
theorem acap_nil : acap h K (.val (.slice none 0 0)) = K (.val (.int .i64 0)) h := nr rfl
theorem acap_sl {a b c d e} : acap h K (.sl a b c d (some e)) = K (.val (.int .i64 e)) h := nr rfl
end
-- guards
theorem agd_t {r s1 s2 b} : agd true r s1 s2 (.val (.bool b)) = AIf b r s1 := by cases b <;> rfl
theorem agd_f {r s1 s2 b} : agd false r s1 s2 (.val (.bool b)) = AIf b s1 r := by
  cases b <;> simp [agd, AIf]
theorem lt0 {n : Nat} : (0 < n + 1) = True := by simp
theorem ltS {n m : Nat} : (n + 1 < m + 1) = (n < m) := by simp
theorem ne0 {n : Nat} : (n + 1 ≠ 0) = True := by simp
theorem notT : (!true) = false := nr rfl
theorem notF : (!false) = true := nr rfl
theorem tlA {α} {l : List α} : (Array.mk l).toList = l := nr rfl
theorem AIf_not {b r s} : AIf (!b) r s = AIf b s r := by cases b <;> simp [AIf]
theorem beq_dec {a b : Int} : (a == b) = decide (a = b) := by rw [Bool.eq_iff_iff]; simp
theorem bne_dec {a b : Int} : (a != b) = !decide (a = b) := by rw [Bool.eq_iff_iff]; simp
-- lists
theorem repS {α} {n} {a : α} : List.replicate (n + 1) a = a :: List.replicate n a := nr rfl
theorem rep0 {α} {a : α} : List.replicate 0 a = [] := nr rfl
theorem mapC {α β} {f : α → β} {a l} : List.map f (a :: l) = f a :: List.map f l := nr rfl
theorem mapN {α β} {f : α → β} : List.map f [] = [] := nr rfl
theorem zipC {α β} {a : α} {b : β} {l m} : List.zip (a :: l) (b :: m) = (a, b) :: List.zip l m := nr rfl
theorem zipN {α β} {l : List α} : List.zip l ([] : List β) = [] := nr (by simp)
theorem lenC {α} {a : α} {l} : (a :: l).length = l.length + 1 := nr rfl
theorem lenN {α} : ([] : List α).length = 0 := nr rfl
theorem gD0 {α} {a : α} {l d} : (a :: l).getD 0 d = a := nr rfl
theorem gDs {α} {a : α} {l d n} : (a :: l).getD (n + 1) d = l.getD n d := nr rfl
theorem sC0 {α} {a b : α} {l} : (a :: l).set 0 b = b :: l := nr rfl
theorem sCs {α} {a b : α} {l n} : (a :: l).set (n + 1) b = a :: l.set n b := nr rfl
theorem gE0 {α} {a : α} {l : List α} : (a :: l)[0]? = some a := nr rfl
theorem gEs {α} {a : α} {l : List α} {n} : (a :: l)[n + 1]? = l[n]? := nr (by simp)
theorem appC {α} {a : α} {l m : List α} : (a :: l) ++ m = a :: (l ++ m) := nr rfl
theorem appN {α} {l : List α} : [] ++ l = l := nr rfl
theorem takeS {α} {a : α} {l n} : List.take (n + 1) (a :: l) = a :: List.take n l := nr rfl
theorem take0 {α} {l : List α} : List.take 0 l = [] := nr rfl
-- a heap and what this frame made
theorem hget0 {h g : Heap} : (h ++ g)[h.length]? = g[0]? := by rw [List.getElem?_append_right (Nat.le_refl _), Nat.sub_self]
theorem hgetS {h g : Heap} {k} : (h ++ g)[h.length + k]? = g[k]? := by rw [List.getElem?_append_right (by omega)]; congr 1; omega
theorem hset0 {h g : Heap} {x} : (h ++ g).set h.length x = h ++ g.set 0 x := by rw [List.set_append_right _ _ (by omega)]; congr 2; omega
theorem hsetS {h g : Heap} {x k} : (h ++ g).set (h.length + k) x = h ++ g.set k x := by rw [List.set_append_right _ _ (by omega)]; congr 2; omega
theorem hlen {h g : Heap} : (h ++ g).length = h.length + g.length := List.length_append
theorem hassoc {h g : Heap} {x} : h ++ g ++ [x] = h ++ (g ++ [x]) := List.append_assoc ..
end Go.Am

namespace Go.Am
open Go
attribute [go_sem] aw_skip aw_region aw_seq aw_cond aw_block aw_loop aw_exit aw_ret aw_label kSeq_normal kSeq_exit kSeq_ret kBlock_normal kBlock_ret kBlock_exit kOp_eq aops_nil aops_plain aops_guard guardTmp_eq alen_il alen_sl alen_nil alen_emp abin_add abin_sub abin_mul abin_eql abin_neq abin_lss abin_leq abin_gtr abin_geq abin_quo abin_rem abin_shl abin_shr abin_and abin_or abin_xor abin_bool abin_slnil abin_nilnil abin_ptrnil abin_iptrnil abin_pnilnil aeqb_eql aeqb_neq aindex_il aindex_sl aindex_ptr aarrP_some aload_iptr anot_bool aneg_int anil_ptr anil_iptr anil_fn aext_tup aget_some apick_bool acond_bool agd_undef acall_fn tK_eq tAw_eq tRun_eq tSkip_eq agd0_some dstOf_eq gTmp_some kLoop_normal kLoop_exit kLoop_ret AIf_true AIf_false mkT_eq setL_nil setL_cons gets_cons gets_nil kAres_eq ares_nil ares_tmp ares_cell resAV_one resAV_nil resAV_two kRet_normal kRet_ret List.length_map
attribute [go_sem] agd_t agd_f lt0 ltS ne0 notT notF tlA aop_move aop_assign aop_pick aop_fieldAddr aop_indexAddr aop_load aop_store aop_binOp aop_not aop_neg aop_convert aop_nilCheck aop_box aop_alloc pval_mk rho2_mk fstN_mk aop_build aop_buildSlice aop_makeSlice orho_some orho_none aop_slice aop_makeFunc aop_extract aop_builtin aop_call rho_tmp rho_int rho_bool rho_nils rho_nilp rho_nilm rho_nilf rho_nili rho_str rho_func put_some put_none abuiltin_len abuiltin_cap abuiltin_append afieldP_some afield_ptr afieldI_some afield_iptr aloadY_some aloadO_arr aload_ptr' astoreZ_some astoreY_some astoreO_arr astore_ptr sub_nil subO_some sub_agg offs_nil offsO_some offsY_some offs_agg upd_nil updO_some updY_some upd_agg shape_val shape_il shape_sl shape_ptr shape_iptr shape_fn shape_emp shape_mp shape_agg flat_val flat_il flat_sl flat_ptr flat_iptr flat_fn flat_emp flat_mp flat_agg flats_nil flats_cons storable_eq sto_nil sto_val sto_il sto_sl sto_ptr sto_iptr sto_fn sto_emp sto_mp aconvK_some aconv_int aallocZ_some aalloc_eq abox_eq abuildZ_some abuild_eq abuildGo_nil lenO_some abuildGo_cons partOk_val partOk_il partOk_sl partOk_ptr partOk_iptr partOk_fn partOk_emp partOk_agg abuildS_some abuildSlice_eq allOk_nil allOk_cons amakeZ_some amakeE_some amake_int aappY_some aappE_some aapp_eq AEmp_nil AEmp_cons aappGo_nil aappGo_emp aappS_some aappGo_sl elems_nil elems_emp elems_il elemsO_arr elems_sl sbound_none sbound_some asliceI_some asliceS_some aslice_eq asliceE_il asliceE_sl asliceE_il0 asliceE_emp0 asliceE_nil0 asliceE_sl0 acap_emp acap_nil acap_sl repS rep0 mapC mapN zipC zipN lenC lenN gD0 gDs sC0 sCs gE0 gEs appC appN takeS take0 hget0 hgetS hset0 hsetS hlen hassoc
attribute [go_sem] AIf_not beq_dec bne_dec sto_app Bool.true_and Bool.and_true List.length_append Int.toNat_natCast Nat.zero_add Nat.add_zero Option.isSome_some true_and and_true Option.map_some eq_self and_self ite_true ite_false
end Go.Am

set_option linter.unusedVariables false
namespace Go.Am
open Go
/-- no references -/
inductive NR : AV → Prop
  | val (v : Value) : NR (.val v)
  | any : NR .any
  | tup (xs : List AV) (h : ∀ x ∈ xs, NR x) : NR (.tup xs)
  | agg (xs : List AV) (h : ∀ x ∈ flats xs, NR x) : NR (.agg xs)
theorem NR.vrel {M M' : MM} {w : World} {x v} (hv : VRel M w x v) : NR x → VRel M' w x v := by
  induction hv with
  | any v => intro _; exact .any v
  | val v hg => intro _; exact .val v hg
  | agg xs cs hl hr ih => intro hn; cases hn with | agg _ hn => exact .agg xs cs hl fun i x v h1 h2 => ih i x v h1 h2 (hn x (List.mem_of_getElem? h1))
  | tup xs cs hl hr ih => intro hn; cases hn with | tup _ hn => exact .tup xs cs hl fun i x v h1 h2 => ih i x v h1 h2 (hn x (List.mem_of_getElem? h1))
  | _ => intro hn; cases hn
inductive FrzL (n : Nat) (h : Heap) : List AV → List AV → Prop
  | nil : FrzL n h [] []
  | cons {x y xs ys} (hx : Frz n h x y) (hs : FrzL n h xs ys) : FrzL n h (x :: xs) (y :: ys)
theorem FrzL.spec {n h xs ys} (f : FrzL n h xs ys) : ys.length = xs.length ∧ ∀ (i : Nat) x y, xs[i]? = some x → ys[i]? = some y → Frz n h x y := by
  induction f with
  | nil => exact ⟨rfl, fun i x y h => by simp at h⟩
  | cons hx hs ih =>
    refine ⟨by simp [ih.1], fun i x y h1 h2 => ?_⟩
    cases i with
    | zero => simp at h1 h2; subst h1; subst h2; exact hx
    | succ i => exact ih.2 i x y (by simpa using h1) (by simpa using h2)
theorem Inv.none {w : World} : Inv (fun _ => .absent) [] w where
  live o obj h := by simp at h
  dead o h := by simp at h
  out o h := rfl
  inj o o' a a' h := by cases h
  lt o a h := by cases h
theorem cut_zero {M : MM} : cut M 0 = fun _ => .absent := by funext o; simp [cut]
theorem frz_vrel' {M : MM} {w : World} {n : Nat} {h : Heap} (hi : Inv M h w) {x y} (hf : Frz n h x y) {v} (hv : VRel M w x v) : VRel (cut M n) w y v := by
  cases hf with
  | pure _ hb => exact vrel_cut hv hb
  | sl o sz off len cap e xs ys ho hn hl hy hu hf => exact frz_vrel hi (.sl o sz off len cap e xs ys ho hn hl hy hu hf) (by simp) hv
  | ptr o sz i k p e xs x y z ho hn hx hs hk hf => exact frz_vrel hi (.ptr o sz i k p e xs x y z ho hn hx hs hk hf) (by simp) hv
  | agg xs ys hl hf => exact frz_vrel hi (.agg xs ys hl hf) (by simp) hv
  | nil sz => exact frz_vrel hi (.nil sz) (by simp) hv
  | emp sz => exact frz_vrel hi (.emp sz) (by simp) hv
/-- a call that only looks: what it is handed may be written by others -/
theorem RunsK.borrow {P : Program} {f : FuncId} {xs ys : List AV} {h : Heap} {r : AV} {K : AV → Heap → Prop} (hr : NR r) (hp : RunsK P f ys [] (fun a _ => a = r)) (hf : FrzL 0 h xs ys) (hk : K r h) : RunsK P f xs h K := by
  refine ⟨hp.1, fun M w cargs hi ht => ?_⟩
  have ht' : Tmps (fun _ => .absent) w ys cargs := by
    obtain ⟨h1, h2⟩ := hf.spec
    refine ⟨by rw [ht.1, h1], fun i y v hy hv => ?_⟩
    have hlt : i < xs.length := by rw [← h1]; exact (List.getElem?_eq_some_iff.1 hy).1
    have hx := List.getElem?_eq_getElem hlt
    rw [← cut_zero (M := M)]
    exact frz_vrel' hi (h2 i _ y hx hy) (ht.2 i _ v hx hv)
  refine (hp.2 _ w cargs Inv.none ht').mono fun e w' he => ?_
  obtain ⟨v, rfl, y, h', M', rfl, -, hv, hev, -, -⟩ := he
  have nb : ∀ b, ¬ blk (fun _ => .absent) b := fun b hb => by obtain ⟨o, a, ho, -⟩ := hb; cases ho
  have ev : Ev M w M w' := ⟨hev.size, fun b hb _ => hev.same b hb (nb b), fun _ _ h => .inl h, fun _ h => h, fun _ h => .inl h, hev.shape, hev.os, hev.tape, hev.output⟩
  refine ⟨v, rfl, y, h, M, hk, ⟨fun o ob ho => ?_, hi.dead, hi.out, hi.inj, fun o a ha => Nat.lt_of_lt_of_le (hi.lt o a ha) hev.size⟩, NR.vrel hv hr, ev, fun _ _ h => h, Nat.le_refl _⟩
  rcases hi.live o ob ho with h1 | ⟨b, bo, h1, h2⟩
  · exact .inl h1
  · exact .inr ⟨b, bo, h1, h2.ev ev (hev.same b (hi.lt o _ h1) (nb b))⟩
/-- a call to which what was made is handed to be written no more -/
theorem RunsK.frz {P : Program} {f : FuncId} {xs ys : List AV} {h h' : Heap} {S : Nat → Prop} {K : AV → Heap → Prop} (hl : FrzSL S h xs ys) (hh : FrzH S h h') (hr : RunsK P f ys h' K) : RunsK P f xs h K := by
  refine ⟨hr.1, fun M w cargs hi ht => (hr.2 (kill S M) w cargs (frzH_inv hi hh) (frzS_tmps hi hl ht)).mono fun e w' he => ?_⟩
  obtain ⟨v, rfl, y, h2, M', k1, k2, k3, k4, k5, k6⟩ := he
  exact ⟨v, rfl, y, h2, M', k1, k2, k3, kill_ev.trans k4, fun o ho ha => k5 o (by rw [hh.len]; exact ho) (kill_absent ha), by rw [← hh.len]; exact k6⟩
/-- a counted loop -/
theorem aLoop_nat {P c tm h} {K : Kont} (sl : List Nat) (n : Nat) (I : Nat → List AV → Heap → Prop) (h0 : I 0 (gets tm sl) h)
   (hr : ∀ k vs h, k ≤ n → vs.length = sl.length → I k vs h → ∀ (I' : List AV → Heap → Prop) μ m, (∀ vs h, k < n → I (k + 1) vs h → I' vs h ∧ μ vs h < m) → aw P c (mkT tm.length (sl.zip vs)) h (kLoop sl I' μ m K)) : aLoop P c tm h K := by
  refine aLoop_intro sl (fun vs h => ∃ k, k ≤ n ∧ I k vs h) (fun vs h => minOf fun m => ∃ k, k ≤ n ∧ I k vs h ∧ m = n - k) ⟨0, Nat.zero_le _, h0⟩ ?_
  rintro vs h1 hvl ⟨k0, hk0, hI0⟩
  obtain ⟨⟨k, hk, hI, he⟩, -⟩ := minOf_spec (S := fun m => ∃ k, k ≤ n ∧ I k vs h1 ∧ m = n - k) ⟨n - k0, k0, hk0, hI0, rfl⟩
  refine hr k vs h1 hk hvl hI _ _ _ fun vs' h' hlt hI' => ⟨⟨k + 1, hlt, hI'⟩, ?_⟩
  have := (minOf_spec (S := fun m => ∃ k, k ≤ n ∧ I k vs' h' ∧ m = n - k) ⟨n - (k + 1), k + 1, hlt, hI', rfl⟩).2 (n - (k + 1)) ⟨k + 1, hlt, hI', rfl⟩
  omega
theorem Wk.same {h0 h : Heap} {r : AV} (hl : h0.length ≤ h.length) : Wk h0 r h r h := fun M0 w0 M w v _ hi hev hab hv => ⟨M, hi, hv, hev, hab, hl⟩
theorem adr_nil' {P : Program} {ops : List Oper} {tm : List AV} {h : Heap} {pend : Pend} {K : KO} : adr P ops [] tm h pend K = K tm h := by simp [adr]
end Go.Am
