/- A part of the proof that AliasThings and AliasMeets return true for every module: texts on an abstract reading of the code (AmBase, AmOps, AmS1, AmOps2). -/
import Derived.Calls
import Derived.Attr
import Derived.KernelRfl
import Derived.Laws.Sem
import Derived.Laws.Entries
import Derived.Laws.Cells
import Derived.Laws.World
import Derived.ChangeKeysEq
set_option linter.unusedVariables false
set_option linter.unusedSimpArgs false
set_option linter.unusedSectionVars false
namespace Go.Am
open Go

/-- abstract values -/
inductive AV where
  | any
  | val (v : Value)
  | agg (xs : List AV)
  | tup (xs : List AV)
  | il (sz : Nat) (xs : List AV)
  | sl (o sz off len : Nat) (cap : Option Nat)
  | ptr (o sz i k : Nat) (path : List Nat)
  | iptr (x : AV)
  | fn (f : Fn) (first captured : List AV)
  | emp
  | mp (o : Nat)
  deriving Inhabited

inductive AObj where
  | arr (e : TypeId) (sz : Nat) (xs : List AV)
  | map (kvs : List (AV × AV))

abbrev Heap := List (Option AObj)

mutual
def flat : AV → List AV
  | .agg xs => flats xs
  | .any => [.any]
  | .val v => [.val v]
  | .tup xs => [.tup xs]
  | .il s xs => [.il s xs]
  | .sl a b c d e => [.sl a b c d e]
  | .ptr a b c d e => [.ptr a b c d e]
  | .iptr x => [.iptr x]
  | .fn a b c => [.fn a b c]
  | .mp o => [.mp o]
  | .emp => [.emp]
def flats : List AV → List AV
  | [] => []
  | x :: xs => flat x ++ flats xs
end

def leafOk : AV → Bool
  | .any | .tup _ | .agg _ => false
  | _ => true
def storable (x : AV) : Bool := (flat x).all leafOk

def AV.sub : AV → List Nat → Option AV
  | x, [] => some x
  | .agg xs, f :: p => match xs[f]? with | some y => y.sub p | none => none
  | _, _ :: _ => none
def AV.upd : AV → List Nat → AV → Option AV
  | _, [], v => some v
  | .agg xs, f :: p, v => match xs[f]? with
    | some y => match y.upd p v with | some y' => some (.agg (xs.set f y')) | none => none
    | none => none
  | _, _ :: _, _ => none
def AV.offs : AV → List Nat → Option Nat
  | _, [] => some 0
  | .agg xs, f :: p => match xs[f]? with
    | some y => match y.offs p with | some r => some ((flats (xs.take f)).length + r) | none => none
    | none => none
  | _, _ :: _ => none

def ground : Value → Bool
  | .bool _ | .int .. | .float .. | .complex .. | .string _ | .pointer none | .slice none 0 0 | .map none | .nilFunc | .nilIface | .chan none => true
  | _ => false

def AV.ref : AV → Option Nat
  | .sl o .. | .ptr o .. | .mp o => some o
  | _ => none

inductive MS where
  | live (a : Addr)
  | dead
  | absent
abbrev MM := Nat → MS
def blk (M : MM) (b : Nat) : Prop := ∃ o a, M o = .live a ∧ a.block = b

def CellsAt (w : World) (b off : Nat) (vs : List Value) : Prop := ∀ (i : Nat) v, vs[i]? = some v → w.cell? ⟨b, off + i, none⟩ = some v
def Room (w : World) (b n : Nat) : Prop := ∃ cells e fz, w.heap[b]? = some (.cells cells e fz) ∧ n ≤ cells.size

/-- what an abstract value says of a value -/
inductive VRel (M : MM) (w : World) : AV → Value → Prop
  | any (v) : VRel M w .any v
  | val (v) (h : ground v = true) : VRel M w (.val v) v
  | agg (xs : List AV) (cs : Array Value) (hl : cs.size = (flats xs).length) (hr : ∀ (i : Nat) x v, (flats xs)[i]? = some x → cs[i]? = some v → VRel M w x v) : VRel M w (.agg xs) (.agg cs)
  | tup (xs : List AV) (vs : Array Value) (hl : vs.size = xs.length) (hr : ∀ (i : Nat) x v, xs[i]? = some x → vs[i]? = some v → VRel M w x v) : VRel M w (.tup xs) (.tuple vs)
  | il (sz : Nat) (xs : List AV) (a : Option Addr) (c : Nat) (vs : List Value) (hlc : xs.length ≤ c) (hu : ∀ x ∈ xs, (flat x).length = sz ∧ storable x = true) (hvl : vs.length = (flats xs).length)
      (hc : xs ≠ [] → ∃ b off, a = some ⟨b, off, none⟩ ∧ ¬ blk M b ∧ b < w.heap.size ∧ CellsAt w b off vs)
      (hr : ∀ (i : Nat) x v, (flats xs)[i]? = some x → vs[i]? = some v → VRel M w x v) : VRel M w (.il sz xs) (.slice a xs.length c)
  | iptr (x : AV) (b off : Nat) (vs : List Value) (hvl : vs.length = (flat x).length) (hb : ¬ blk M b) (hlt : b < w.heap.size) (hc : CellsAt w b off vs)
      (hr : ∀ (i : Nat) y v, (flat x)[i]? = some y → vs[i]? = some v → VRel M w y v) : VRel M w (.iptr x) (.pointer (some ⟨b, off, none⟩))
  | sl (o sz off len : Nat) (cap : Option Nat) (b bo c : Nat) (a : Addr) (hM : M o = .live ⟨b, bo, none⟩) (hlc : len ≤ c) (hcap : ∀ c', cap = some c' → c = c') (ha : 0 < c → a = ⟨b, bo + off * sz, none⟩)
      (room : 0 < c → Room w b (bo + (off + c) * sz)) : VRel M w (.sl o sz off len cap) (.slice (some a) len c)
  | ptr (o sz i k : Nat) (p : List Nat) (b bo : Nat) (hM : M o = .live ⟨b, bo, none⟩) : VRel M w (.ptr o sz i k p) (.pointer (some ⟨b, bo + i * sz + k, none⟩))
  | mp (o b bo : Nat) (hM : M o = .live ⟨b, bo, none⟩) : VRel M w (.mp o) (.map (some b))
  | sld (o sz off len : Nat) (cap : Option Nat) (c : Nat) (a : Addr) (hM : M o = .dead) (hlc : len ≤ c) (hcap : ∀ c', cap = some c' → c = c') : VRel M w (.sl o sz off len cap) (.slice (some a) len c)
  | ptrd (o sz i k : Nat) (p : List Nat) (a : Addr) (hM : M o = .dead) : VRel M w (.ptr o sz i k p) (.pointer (some a))
  | mpd (o b : Nat) (hM : M o = .dead) : VRel M w (.mp o) (.map (some b))
  | emp (a : Option Addr) : VRel M w .emp (.slice a 0 0)
  | fn (f : Fn) (xs ys : List AV) (vs us : Array Value) (hl : vs.size = xs.length) (hl' : us.size = ys.length)
      (hr : ∀ (i : Nat) x v, xs[i]? = some x → vs[i]? = some v → VRel M w x v) (hr' : ∀ (i : Nat) x v, ys[i]? = some x → us[i]? = some v → VRel M w x v) : VRel M w (.fn f xs ys) (.func f vs us)

def ObjRel (M : MM) (w : World) (b bo : Nat) : AObj → Prop
  | .arr e sz xs => (∀ x ∈ xs, (flat x).length = sz ∧ storable x = true) ∧ ∃ cells, w.heap[b]? = some (.cells cells e (0, 0)) ∧ ∀ (i : Nat) x, (flats xs)[i]? = some x → ∃ v, cells[bo + i]? = some v ∧ VRel M w x v
  | .map kvs => ∃ es clock, w.heap[b]? = some (.map es clock) ∧ es.size = kvs.length ∧ ∀ (i : Nat) kv e, kvs[i]? = some kv → es[i]? = some e → VRel M w kv.1 e.key ∧ VRel M w kv.2 e.val

structure Inv (M : MM) (h : Heap) (w : World) : Prop where
  live : ∀ o obj, h[o]? = some (some obj) → M o = .absent ∨ ∃ b bo, M o = .live ⟨b, bo, none⟩ ∧ ObjRel M w b bo obj
  dead : ∀ o, h[o]? = some none → M o = .dead ∨ M o = .absent
  out : ∀ o, h.length ≤ o → M o = .absent
  inj : ∀ o o' a a', M o = .live a → M o' = .live a' → a.block = a'.block → o = o'
  lt : ∀ o a, M o = .live a → a.block < w.heap.size

structure Ev (M : MM) (w : World) (M' : MM) (w' : World) : Prop where
  size : w.heap.size ≤ w'.heap.size
  same : ∀ b, b < w.heap.size → ¬ blk M b → w'.heap[b]? = w.heap[b]?
  live : ∀ o a, M o = .live a → M' o = .live a ∨ M' o = .dead
  dead : ∀ o, M o = .dead → M' o = .dead
  blk : ∀ b, blk M' b → blk M b ∨ w.heap.size ≤ b
  shape : ∀ b cells e fz, b < w.heap.size → w.heap[b]? = some (.cells cells e fz) → ∃ cells', w'.heap[b]? = some (.cells cells' e fz) ∧ cells'.size = cells.size
  os : w'.os = w.os
  tape : w'.tape = w.tape
  output : w'.output = w.output

theorem Ev.refl (M : MM) (w : World) : Ev M w M w :=
  ⟨Nat.le_refl _, fun _ _ _ => rfl, fun _ _ h => .inl h, fun _ h => h, fun _ h => .inl h, fun _ c _ _ _ h => ⟨c, h, rfl⟩, rfl, rfl, rfl⟩

theorem Ev.trans {M w M1 w1 M2 w2} (h : Ev M w M1 w1) (k : Ev M1 w1 M2 w2) : Ev M w M2 w2 where
  size := Nat.le_trans h.size k.size
  same b hb hn := by
    rw [k.same b (Nat.lt_of_lt_of_le hb h.size) (fun hk => (h.blk b hk).elim hn (by omega)), h.same b hb hn]
  live o a ho := by
    rcases h.live o a ho with h1 | h1
    · exact k.live o a h1
    · exact .inr (k.dead o h1)
  dead o ho := k.dead o (h.dead o ho)
  blk b hb := by
    rcases k.blk b hb with h1 | h1
    · exact h.blk b h1
    · exact .inr (Nat.le_trans h.size h1)
  shape b cells e fz hb hc := by
    obtain ⟨c1, h1, e1⟩ := h.shape b cells e fz hb hc
    obtain ⟨c2, h2, e2⟩ := k.shape b c1 e fz (Nat.lt_of_lt_of_le hb h.size) h1
    exact ⟨c2, h2, e2.trans e1⟩
  os := k.os.trans h.os
  tape := k.tape.trans h.tape
  output := k.output.trans h.output

theorem cell_same {w w' : World} {b off : Nat} (h : w'.heap[b]? = w.heap[b]?) : w'.cell? ⟨b, off, none⟩ = w.cell? ⟨b, off, none⟩ := by
  simp only [World.cell?, h]

theorem Room.ev {M w M' w' b n} (h : Ev M w M' w') (hb : b < w.heap.size) (hr : Room w b n) : Room w' b n := by
  obtain ⟨c, e, fz, h1, h2⟩ := hr
  obtain ⟨c', h3, h4⟩ := h.shape b c e fz hb h1
  exact ⟨c', e, fz, h3, by omega⟩
theorem Room.lt {w b n} (hr : Room w b n) : b < w.heap.size := by
  obtain ⟨c, e, fz, h1, h2⟩ := hr
  exact (Array.getElem?_eq_some_iff.1 h1).1

theorem VRel.ev {M w M' w'} (h : Ev M w M' w') {x v} (hv : VRel M w x v) : VRel M' w' x v := by
  induction hv with
  | any v => exact .any v
  | val v hg => exact .val v hg
  | agg xs cs hl _ ih => exact .agg xs cs hl ih
  | tup xs vs hl _ ih => exact .tup xs vs hl ih
  | il sz xs a c vs hlc hu hvl hc _ ih =>
    refine .il sz xs a c vs hlc hu hvl (fun hne => ?_) ih
    obtain ⟨b, off, rfl, hb, hlt, hcs⟩ := hc hne
    refine ⟨b, off, rfl, fun hk => (h.blk b hk).elim hb (by omega), Nat.lt_of_lt_of_le hlt h.size, fun i v hi => ?_⟩
    rw [cell_same (h.same b hlt hb)]
    exact hcs i v hi
  | iptr x b off vs hvl hb hlt hc _ ih =>
    refine .iptr x b off vs hvl (fun hk => (h.blk b hk).elim hb (by omega)) (Nat.lt_of_lt_of_le hlt h.size) (fun i v hi => ?_) ih
    rw [cell_same (h.same b hlt hb)]
    exact hc i v hi
  | sl o sz off len cap b bo c a hM hlc hcap ha room =>
    rcases h.live o _ hM with h1 | h1
    · exact .sl o sz off len cap b bo c a h1 hlc hcap ha (fun hp => (room hp).ev h (room hp).lt)
    · exact .sld o sz off len cap c a h1 hlc hcap
  | ptr o sz i k p b bo hM =>
    rcases h.live o _ hM with h1 | h1
    · exact .ptr o sz i k p b bo h1
    · exact .ptrd o sz i k p _ h1
  | mp o b bo hM =>
    rcases h.live o _ hM with h1 | h1
    · exact .mp o b bo h1
    · exact .mpd o b h1
  | sld o sz off len cap c a hM hlc hcap => exact .sld o sz off len cap c a (h.dead o hM) hlc hcap
  | ptrd o sz i k p a hM => exact .ptrd o sz i k p a (h.dead o hM)
  | mpd o b hM => exact .mpd o b (h.dead o hM)
  | emp a => exact .emp a
  | fn f xs ys vs us hl hl' _ _ ih ih' => exact .fn f xs ys vs us hl hl' ih ih'

theorem ground_one {v : Value} (h : ground v = true) : v.oneCell' = true := by
  cases v <;> simp_all [ground, Value.oneCell']
theorem VRel.one {M w x v} (h : VRel M w x v) (hs : leafOk x = true) : v.oneCell' = true := by
  cases h with
  | any => simp [leafOk] at hs
  | agg => simp [leafOk] at hs
  | tup => simp [leafOk] at hs
  | val _ hg => exact ground_one hg
  | _ => rfl
end Go.Am

namespace Go.Am
open Go

/-! type facts -/
def fOff (P : Program) (s f : Nat) : Option Nat := match P.underlying s with
  | some (.struct fs) => match fs[f]? with
    | some fd => if P.cellsOf fd.type = 0 ∨ (P.info? fd.type).isNone then none else some fd.offset
    | none => none
  | _ => none
def slElem (P : Program) (t : TypeId) : Option TypeId := match P.underlying t with
  | some (.slice e) => if (P.info? e).isSome then some e else none
  | _ => none
def szOf (P : Program) (t : TypeId) : Nat := P.cellsOf t
def isAggB (P : Program) (t : TypeId) : Option Bool := match P.underlying t with
  | some (.struct _) | some (.array ..) => if (P.info? t).isSome then some true else none
  | some _ => some false
  | none => none
def intOf (P : Program) (t : TypeId) : Option IntKind := match P.underlying t with
  | some (.int k) => some k
  | _ => none

def AIf (t : Bool) (a b : Unit → Prop) : Prop := (t = true → a ()) ∧ (t = false → b ())
def tK (K : AV → Heap → Prop) (v : AV) (h : Heap) : Unit → Prop := fun _ => K v h
theorem nr {α : Sort _} {a b : α} (h : a = b) : a = b := h
theorem tK_eq {K v h} : tK K v h () = K v h := nr rfl
def ABound (n m : Int) : Prop := 0 ≤ n ∧ n < m

def shapeOk (P : Program) (t : TypeId) : AV → Prop
  | .agg ys => isAggB P t = some true ∧ (flats ys).length = szOf P t
  | .any => False
  | .tup _ => False
  | _ => isAggB P t = some false

def rho (tm : List AV) : Operand → AV
  | .tmp t => tm.getD t (.tup [])
  | .const v => if ground v then .val v else .any
  | .global _ => .any
  | .func f => .fn (.func f) [] []
def put (tm : List AV) : Option Tmp → AV → List AV
  | some d, v => tm.set d v
  | none, _ => tm

/-! integers -/
def isBoolT (P : Program) (t : TypeId) : Bool := match P.underlying t with
  | some .bool => true
  | _ => false
def isPtrT (P : Program) (t : TypeId) : Bool := match P.underlying t with
  | some (.pointer _) => true
  | _ => false
def aeqb (op : BinOp) (h : Heap) (K : AV → Heap → Prop) (b : Bool) : Prop := match op with
  | .eql => K (.val (.bool b)) h
  | .neq => K (.val (.bool (!b))) h
  | _ => False
theorem aeqb_eql {h K b} : aeqb .eql h K b = K (.val (.bool b)) h := nr rfl
theorem aeqb_neq {h K b} : aeqb .neq h K b = K (.val (.bool (!b))) h := nr rfl
def abin (P : Program) (t : TypeId) (op : BinOp) (h : Heap) (K : AV → Heap → Prop) (x y : AV) : Prop :=
  match x, y with
  | .val (.int k a), .val (.int k' b) => match op with
    | .add => k = k' ∧ K (.val (.int k (k.wrap (a + b)))) h
    | .sub => k = k' ∧ K (.val (.int k (k.wrap (a - b)))) h
    | .mul => k = k' ∧ K (.val (.int k (k.wrap (a * b)))) h
    | .eql => k = k' ∧ K (.val (.bool (a == b))) h
    | .neq => k = k' ∧ K (.val (.bool (a != b))) h
    | .lss => k = k' ∧ K (.val (.bool (decide (a < b)))) h
    | .leq => k = k' ∧ K (.val (.bool (decide (a ≤ b)))) h
    | .gtr => k = k' ∧ K (.val (.bool (decide (a > b)))) h
    | .geq => k = k' ∧ K (.val (.bool (decide (a ≥ b)))) h
    | .quo => k = k' ∧ b ≠ 0 ∧ K (.val (.int k (k.wrap (a.tdiv b)))) h
    | .rem => k = k' ∧ b ≠ 0 ∧ K (.val (.int k (a.tmod b))) h
    | .and => k = k' ∧ K (.val (.int k (k.wrap ((BitVec.ofInt k.bits a &&& BitVec.ofInt k.bits b).toNat : Int)))) h
    | .or => k = k' ∧ K (.val (.int k (k.wrap ((BitVec.ofInt k.bits a ||| BitVec.ofInt k.bits b).toNat : Int)))) h
    | .xor => k = k' ∧ K (.val (.int k (k.wrap ((BitVec.ofInt k.bits a ^^^ BitVec.ofInt k.bits b).toNat : Int)))) h
    | .shl => 0 ≤ b ∧ K (.val (.int k (k.wrap (a * 2 ^ min b.toNat k.bits)))) h
    | .shr => 0 ≤ b ∧ K (.val (.int k (a.fdiv (2 ^ min b.toNat k.bits)))) h
    | _ => False
  | .val (.bool a), .val (.bool b) => isBoolT P t = true ∧ aeqb op h K (a == b)
  | .sl .., .val (.slice none 0 0) => (slElem P t).isSome = true ∧ aeqb op h K false
  | .val (.slice none 0 0), .val (.slice none 0 0) => (slElem P t).isSome = true ∧ aeqb op h K true
  | .ptr .., .val (.pointer none) => isPtrT P t = true ∧ aeqb op h K false
  | .iptr _, .val (.pointer none) => isPtrT P t = true ∧ aeqb op h K false
  | .val (.pointer none), .val (.pointer none) => isPtrT P t = true ∧ aeqb op h K true
  | _, _ => False
section
variable {P : Program} {t : TypeId} {h : Heap} {K : AV → Heap → Prop} {k k' : IntKind} {a b : Int} {x y : Bool}
theorem abin_add : abin P t .add h K (.val (.int k a)) (.val (.int k b)) = K (.val (.int k (k.wrap (a + b)))) h := by simp [abin]
theorem abin_sub : abin P t .sub h K (.val (.int k a)) (.val (.int k b)) = K (.val (.int k (k.wrap (a - b)))) h := by simp [abin]
theorem abin_mul : abin P t .mul h K (.val (.int k a)) (.val (.int k b)) = K (.val (.int k (k.wrap (a * b)))) h := by simp [abin]
theorem abin_eql : abin P t .eql h K (.val (.int k a)) (.val (.int k b)) = K (.val (.bool (a == b))) h := by simp [abin]
theorem abin_neq : abin P t .neq h K (.val (.int k a)) (.val (.int k b)) = K (.val (.bool (a != b))) h := by simp [abin]
theorem abin_lss : abin P t .lss h K (.val (.int k a)) (.val (.int k b)) = K (.val (.bool (decide (a < b)))) h := by simp [abin]
theorem abin_leq : abin P t .leq h K (.val (.int k a)) (.val (.int k b)) = K (.val (.bool (decide (a ≤ b)))) h := by simp [abin]
theorem abin_gtr : abin P t .gtr h K (.val (.int k a)) (.val (.int k b)) = K (.val (.bool (decide (a > b)))) h := by simp [abin]
theorem abin_geq : abin P t .geq h K (.val (.int k a)) (.val (.int k b)) = K (.val (.bool (decide (a ≥ b)))) h := by simp [abin]
theorem abin_quo : abin P t .quo h K (.val (.int k a)) (.val (.int k b)) = (b ≠ 0 ∧ K (.val (.int k (k.wrap (a.tdiv b)))) h) := by simp [abin]
theorem abin_rem : abin P t .rem h K (.val (.int k a)) (.val (.int k b)) = (b ≠ 0 ∧ K (.val (.int k (a.tmod b))) h) := by simp [abin]
theorem abin_shl : abin P t .shl h K (.val (.int k a)) (.val (.int k' b)) = (0 ≤ b ∧ K (.val (.int k (k.wrap (a * 2 ^ min b.toNat k.bits)))) h) := nr rfl
theorem abin_shr : abin P t .shr h K (.val (.int k a)) (.val (.int k' b)) = (0 ≤ b ∧ K (.val (.int k (a.fdiv (2 ^ min b.toNat k.bits)))) h) := nr rfl
theorem abin_and : abin P t .and h K (.val (.int k a)) (.val (.int k b)) = K (.val (.int k (k.wrap ((BitVec.ofInt k.bits a &&& BitVec.ofInt k.bits b).toNat : Int)))) h := by simp [abin]
theorem abin_or : abin P t .or h K (.val (.int k a)) (.val (.int k b)) = K (.val (.int k (k.wrap ((BitVec.ofInt k.bits a ||| BitVec.ofInt k.bits b).toNat : Int)))) h := by simp [abin]
theorem abin_xor : abin P t .xor h K (.val (.int k a)) (.val (.int k b)) = K (.val (.int k (k.wrap ((BitVec.ofInt k.bits a ^^^ BitVec.ofInt k.bits b).toNat : Int)))) h := by simp [abin]
theorem abin_bool {op} : abin P t op h K (.val (.bool x)) (.val (.bool y)) = (isBoolT P t = true ∧ aeqb op h K (x == y)) := nr rfl
theorem abin_slnil {op o sz off len c} : abin P t op h K (.sl o sz off len c) (.val (.slice none 0 0)) = ((slElem P t).isSome = true ∧ aeqb op h K false) := nr rfl
theorem abin_nilnil {op} : abin P t op h K (.val (.slice none 0 0)) (.val (.slice none 0 0)) = ((slElem P t).isSome = true ∧ aeqb op h K true) := nr rfl
theorem abin_ptrnil {op o sz i k p} : abin P t op h K (.ptr o sz i k p) (.val (.pointer none)) = (isPtrT P t = true ∧ aeqb op h K false) := nr rfl
theorem abin_iptrnil {op z} : abin P t op h K (.iptr z) (.val (.pointer none)) = (isPtrT P t = true ∧ aeqb op h K false) := nr rfl
theorem abin_pnilnil {op} : abin P t op h K (.val (.pointer none)) (.val (.pointer none)) = (isPtrT P t = true ∧ aeqb op h K true) := nr rfl
end

def aload (P : Program) (t : TypeId) (h : Heap) (K : AV → Heap → Prop) : AV → Prop
  | .iptr y => shapeOk P t y ∧ K y h
  | .ptr o sz i k p => match h[o]? with
    | some (some (.arr _ s xs)) => s = sz ∧ i < xs.length ∧ (xs.getD i .any).offs p = some k ∧
      match (xs.getD i .any).sub p with
      | some y => shapeOk P t y ∧ K y h
      | none => False
    | _ => False
  | _ => False
theorem aload_iptr {P t h K y} : aload P t h K (.iptr y) = (shapeOk P t y ∧ K y h) := nr rfl

def astore (P : Program) (t : TypeId) (h : Heap) (v : AV) (K : AV → Heap → Prop) : AV → Prop
  | .ptr o sz i k p => match h[o]? with
    | some (some (.arr e s xs)) => s = sz ∧ i < xs.length ∧ (xs.getD i .any).offs p = some k ∧
      match (xs.getD i .any).sub p with
      | some y => ((P.info? t).isSome = true ∧ szOf P t ≠ 0) ∧ (flat v).length = szOf P t ∧ (flat y).length = szOf P t ∧ storable v = true ∧ match (xs.getD i .any).upd p v with
        | some z => K (.tup []) (h.set o (some (.arr e s (xs.set i z))))
        | none => False
      | none => False
    | _ => False
  | _ => False

/-- an array's length, and its elements' cells -/
def arElem (P : Program) (t : TypeId) : Option (Nat × Nat) := match P.underlying t with
  | some (.array n e) => if (P.info? e).isSome then some (n, P.cellsOf e) else none
  | _ => none
def aarrP (o sz i k : Nat) (p : List Nat) (n : Int) (h : Heap) (K : AV → Heap → Prop) : Option (Nat × Nat) → Prop
  | some (len, es) => ABound n len ∧ K (.ptr o sz i (k + n.toNat * es) (p ++ [n.toNat])) h
  | none => False
theorem aarrP_some {o sz i k p n h K len es} : aarrP o sz i k p n h K (some (len, es)) = (ABound n len ∧ K (.ptr o sz i (k + n.toNat * es) (p ++ [n.toNat])) h) := nr rfl
def aindex (P : Program) (t : TypeId) (h : Heap) (K : AV → Heap → Prop) (x i : AV) : Prop :=
  match x, i with
  | .il sz xs, .val (.int _ n) => (slElem P t).map (szOf P) = some sz ∧ ABound n xs.length ∧ K (.iptr (xs.getD n.toNat .any)) h
  | .sl o sz off len _, .val (.int _ n) => (slElem P t).map (szOf P) = some sz ∧ ABound n len ∧ K (.ptr o sz (off + n.toNat) 0 []) h
  | .ptr o sz i k p, .val (.int _ n) => aarrP o sz i k p n h K (arElem P t)
  | _, _ => False
theorem aindex_ptr {P t h K o sz i k p k' n} : aindex P t h K (.ptr o sz i k p) (.val (.int k' n)) = aarrP o sz i k p n h K (arElem P t) := nr rfl
theorem aindex_il {P t h K sz xs k n} : aindex P t h K (.il sz xs) (.val (.int k n)) = ((slElem P t).map (szOf P) = some sz ∧ ABound n xs.length ∧ K (.iptr (xs.getD n.toNat .any)) h) := nr rfl
theorem aindex_sl {P t h K o sz off len c k n} : aindex P t h K (.sl o sz off len c) (.val (.int k n)) = ((slElem P t).map (szOf P) = some sz ∧ ABound n len ∧ K (.ptr o sz (off + n.toNat) 0 []) h) := nr rfl

def afield (P : Program) (s f : Nat) (h : Heap) (K : AV → Heap → Prop) : AV → Prop
  | .ptr o sz i k p => match fOff P s f with
    | some n => K (.ptr o sz i (k + n) (p ++ [f])) h
    | none => False
  | .iptr (.agg xs) => match fOff P s f, xs[f]? with
    | some n, some y => (flats (xs.take f)).length = n ∧ K (.iptr y) h
    | _, _ => False
  | _ => False

def alen (h : Heap) (K : AV → Heap → Prop) : AV → Prop
  | .il _ xs => K (.val (.int .i64 xs.length)) h
  | .sl _ _ _ n _ => K (.val (.int .i64 n)) h
  | .emp => K (.val (.int .i64 0)) h
  | .val (.slice none 0 0) => K (.val (.int .i64 0)) h
  | _ => False
theorem alen_il {h K s xs} : alen h K (.il s xs) = K (.val (.int .i64 xs.length)) h := nr rfl
theorem alen_sl {h K o s a n c} : alen h K (.sl o s a n c) = K (.val (.int .i64 n)) h := nr rfl
theorem alen_emp {h K} : alen h K .emp = K (.val (.int .i64 0)) h := nr rfl
theorem alen_nil {h K} : alen h K (.val (.slice none 0 0)) = K (.val (.int .i64 0)) h := nr rfl

def apick (h : Heap) (a b : AV) (K : AV → Heap → Prop) : AV → Prop
  | .val (.bool t) => AIf t (tK K a h) (tK K b h)
  | _ => False
theorem apick_bool {h a b K t} : apick h a b K (.val (.bool t)) = AIf t (tK K a h) (tK K b h) := nr rfl
def anot (h : Heap) (K : AV → Heap → Prop) : AV → Prop
  | .val (.bool b) => K (.val (.bool (!b))) h
  | _ => False
theorem anot_bool {h K b} : anot h K (.val (.bool b)) = K (.val (.bool (!b))) h := nr rfl
def aneg (h : Heap) (K : AV → Heap → Prop) : AV → Prop
  | .val (.int k b) => K (.val (.int k (k.wrap (0 - b)))) h
  | _ => False
theorem aneg_int {h K k b} : aneg h K (.val (.int k b)) = K (.val (.int k (k.wrap (0 - b)))) h := nr rfl
def aconv (P : Program) (src dst : TypeId) (h : Heap) (K : AV → Heap → Prop) : AV → Prop
  | .val (.int _ n) => match intOf P src, intOf P dst with
    | some _, some k => K (.val (.int k (k.wrap n))) h
    | _, _ => False
  | _ => False
def anil (h : Heap) (x : AV) (K : AV → Heap → Prop) : Prop := match x with
  | .ptr .. | .iptr _ | .fn (.func _) _ _ => K x h
  | _ => False
theorem anil_ptr {h K o sz i k p} : anil h (.ptr o sz i k p) K = K (.ptr o sz i k p) h := nr rfl
theorem anil_iptr {h K x} : anil h (.iptr x) K = K (.iptr x) h := nr rfl
theorem anil_fn {h K f a b} : anil h (.fn (.func f) a b) K = K (.fn (.func f) a b) h := nr rfl
def aext (h : Heap) (i : Nat) (K : AV → Heap → Prop) : AV → Prop
  | .tup xs => match xs[i]? with
    | some y => K y h
    | none => False
  | _ => False
def aget (h : Heap) (K : AV → Heap → Prop) : Option AV → Prop
  | some y => K y h
  | none => False
theorem aget_some {h K y} : aget h K (some y) = K y h := nr rfl
theorem aext_tup {h i K xs} : aext h i K (.tup xs) = aget h K (xs[i]?) := by
  cases hx : xs[i]? <;> simp [aext, aget, hx]
def abox (e : TypeId) (h : Heap) (K : AV → Heap → Prop) (x : AV) : Prop :=
  storable x = true ∧ K (.ptr h.length (flat x).length 0 0 []) (h ++ [some (.arr e (flat x).length [x])])
end Go.Am

namespace Go.Am
open Go

/-! ### flat lists -/
theorem flats_append (xs ys : List AV) : flats (xs ++ ys) = flats xs ++ flats ys := by
  induction xs with
  | nil => simp [flats]
  | cons x xs ih => simp [flats, ih]
theorem flats_length {sz : Nat} {xs : List AV} (h : ∀ x ∈ xs, (flat x).length = sz) : (flats xs).length = xs.length * sz := by
  induction xs with
  | nil => simp [flats]
  | cons x xs ih =>
    simp only [flats, List.length_append, List.length_cons, h x (by simp), ih (fun y hy => h y (by simp [hy])), Nat.add_mul, Nat.one_mul]
    omega
theorem flats_get {sz : Nat} {xs : List AV} (h : ∀ x ∈ xs, (flat x).length = sz) {i : Nat} (hi : i < xs.length) {j : Nat} (hj : j < sz) :
    (flats xs)[i * sz + j]? = (flat (xs[i]'hi))[j]? := by
  induction xs generalizing i with
  | nil => simp at hi
  | cons x xs ih =>
    have hx : (flat x).length = sz := h x (by simp)
    cases i with
    | zero => simp only [flats, Nat.zero_mul, Nat.zero_add]; rw [List.getElem?_append_left (by omega)]; rfl
    | succ i =>
      have hs : (i + 1) * sz + j = sz + (i * sz + j) := by rw [Nat.add_mul]; omega
      simp only [flats]
      rw [List.getElem?_append_right (by omega), show (i + 1) * sz + j - (flat x).length = i * sz + j by omega]
      exact ih (fun y hy => h y (by simp [hy])) (by simpa using hi)
theorem flats_split {xs : List AV} {f : Nat} {y : AV} (h : xs[f]? = some y) : flats xs = flats (xs.take f) ++ flat y ++ flats (xs.drop (f + 1)) := by
  obtain ⟨hlt, rfl⟩ := List.getElem?_eq_some_iff.1 h
  have e : xs = xs.take f ++ (xs[f] :: xs.drop (f + 1)) := by simp
  conv => lhs; rw [e]
  rw [flats_append]
  simp [flats]
theorem sub_flat {x y : AV} {p : List Nat} {k : Nat} (hs : x.sub p = some y) (ho : x.offs p = some k) :
    ∃ l r, flat x = l ++ flat y ++ r ∧ l.length = k := by
  induction p generalizing x k with
  | nil =>
    simp only [AV.sub, Option.some.injEq] at hs
    simp only [AV.offs, Option.some.injEq] at ho
    subst hs; subst ho
    exact ⟨[], [], by simp, rfl⟩
  | cons f p ih =>
    cases x with
    | agg xs =>
      simp only [AV.sub, AV.offs] at hs ho
      cases hf : xs[f]? with
      | none => simp [hf] at hs
      | some z =>
        simp only [hf] at hs ho
        cases hz : z.offs p with
        | none => simp [hz] at ho
        | some r =>
          simp only [hz, Option.some.injEq] at ho
          obtain ⟨l, r', he, hl⟩ := ih hs hz
          refine ⟨flats (xs.take f) ++ l, r' ++ flats (xs.drop (f + 1)), ?_, by simp [hl, ho]⟩
          rw [flat, flats_split hf, he]
          simp
    | _ => simp [AV.sub] at hs
theorem upd_flat {x y z v : AV} {p : List Nat} {k : Nat} (hs : x.sub p = some y) (ho : x.offs p = some k) (hu : x.upd p v = some z) :
    ∃ l r, flat x = l ++ flat y ++ r ∧ l.length = k ∧ flat z = l ++ flat v ++ r := by
  induction p generalizing x k z with
  | nil =>
    simp only [AV.sub, Option.some.injEq] at hs
    simp only [AV.offs, Option.some.injEq] at ho
    simp only [AV.upd, Option.some.injEq] at hu
    subst hs; subst ho; subst hu
    exact ⟨[], [], by simp, rfl, by simp⟩
  | cons f p ih =>
    cases x with
    | agg xs =>
      simp only [AV.sub, AV.offs, AV.upd] at hs ho hu
      cases hf : xs[f]? with
      | none => simp [hf] at hs
      | some q =>
        simp only [hf] at hs ho hu
        cases hz : q.offs p with
        | none => simp [hz] at ho
        | some r =>
          cases hq : q.upd p v with
          | none => simp [hq] at hu
          | some q' =>
            simp only [hz, Option.some.injEq] at ho
            simp only [hq, Option.some.injEq] at hu
            obtain ⟨l, r', he, hl, hv⟩ := ih hs hz hq
            subst hu
            refine ⟨flats (xs.take f) ++ l, r' ++ flats (xs.drop (f + 1)), ?_, by simp [hl, ho], ?_⟩
            · rw [flat, flats_split hf, he]; simp
            · have hlt : f < xs.length := (List.getElem?_eq_some_iff.1 hf).1
              have hf' : (xs.set f q')[f]? = some q' := by simp [hlt]
              rw [flat, flats_split hf', hv]
              simp [List.take_set, List.drop_set]
              rw [List.set_eq_of_length_le (by simp; omega)]
    | _ => simp [AV.sub] at hs
theorem flat_leaf {x : AV} (h : ∀ xs, x ≠ .agg xs) : flat x = [x] := by
  cases x <;> first | rfl | exact absurd rfl (h _)
mutual
theorem flat_noagg (x : AV) : ∀ y ∈ flat x, ∀ xs, y ≠ .agg xs := by
  cases x with
  | agg zs => exact flats_noagg zs
  | _ => intro y hy xs; simp [flat] at hy; subst hy; simp
theorem flats_noagg (xs : List AV) : ∀ y ∈ flats xs, ∀ zs, y ≠ .agg zs := by
  cases xs with
  | nil => intro y hy; simp [flats] at hy
  | cons x xs =>
    intro y hy zs
    simp only [flats, List.mem_append] at hy
    rcases hy with hy | hy
    · exact flat_noagg x y hy zs
    · exact flats_noagg xs y hy zs
end

/-! ### temporaries and operands -/
def Tmps (M : MM) (w : World) (tm : List AV) (tmps : Array Value) : Prop :=
  tmps.size = tm.length ∧ ∀ (i : Nat) x v, tm[i]? = some x → tmps[i]? = some v → VRel M w x v
theorem vrel_undef {M w} : VRel M w (.tup []) undef := .tup [] #[] rfl (by simp)
theorem Tmps.ev {M w M' w' tm tmps} (h : Ev M w M' w') (ht : Tmps M w tm tmps) : Tmps M' w' tm tmps :=
  ⟨ht.1, fun i x v h1 h2 => (ht.2 i x v h1 h2).ev h⟩
theorem Tmps.get {M w tm tmps} (ht : Tmps M w tm tmps) (t : Nat) : VRel M w (tm.getD t (.tup [])) (tmps.getD t undef) := by
  by_cases h : t < tm.length
  · have h' : t < tmps.size := by rw [ht.1]; exact h
    have e1 : tm.getD t (.tup []) = tm[t] := by simp [List.getD, h]
    have e2 : tmps.getD t undef = tmps[t] := by simp [Array.getD, h']
    rw [e1, e2]
    exact ht.2 t _ _ (List.getElem?_eq_getElem h) (Array.getElem?_eq_getElem h')
  · have h' : ¬ t < tmps.size := by rw [ht.1]; exact h
    have e1 : tm.getD t (.tup []) = .tup [] := by simp [List.getD, Nat.le_of_not_lt h]
    have e2 : tmps.getD t undef = undef := by simp [Array.getD, h']
    rw [e1, e2]
    exact vrel_undef
theorem Tmps.set {M w tm tmps} (ht : Tmps M w tm tmps) (t : Nat) {x v} (h : VRel M w x v) : Tmps M w (tm.set t x) (tmps.setIfInBounds t v) := by
  refine ⟨by simp [ht.1], fun i y u h1 h2 => ?_⟩
  rw [List.getElem?_set] at h1
  rw [Array.getElem?_setIfInBounds] at h2
  by_cases e : t = i
  · subst e
    simp only [if_true] at h1 h2
    by_cases hl : t < tm.length
    · rw [if_pos hl] at h1
      rw [if_pos (by rw [ht.1]; exact hl)] at h2
      cases h1; cases h2
      exact h
    · rw [if_neg hl] at h1
      cases h1
  · rw [if_neg e] at h1 h2
    exact ht.2 i y u h1 h2
theorem Tmps.put {M w tm tmps d} (ht : Tmps M w tm tmps) (dst : Option Tmp) {x v} (h : VRel M w x v) : Tmps M w (put tm dst x) ((Act.mk tmps d).put dst v).tmps := by
  cases dst with
  | none => exact ht
  | some t => exact ht.set t h
theorem rho_rel {M w tm} {a : Act} (ht : Tmps M w tm a.tmps) (x : Operand) : VRel M w (rho tm x) (a.eval x) := by
  cases x with
  | tmp t => exact ht.get t
  | const v =>
    simp only [rho, Act.eval]
    split
    · exact .val v (by assumption)
    · exact .any v
  | global g => exact .any _
  | func f => exact .fn _ [] [] #[] #[] rfl rfl (by simp) (by simp)

/-! ### what is read -/
def CellsRel (M : MM) (w : World) (b off : Nat) (ys : List AV) : Prop := ∀ (j : Nat) z, ys[j]? = some z → ∃ v, w.cell? ⟨b, off + j, none⟩ = some v ∧ VRel M w z v
theorem cells_list {M w b off ys} (h : CellsRel M w b off ys) : ∃ vs : List Value, vs.length = ys.length ∧ CellsAt w b off vs ∧ ∀ (i : Nat) x v, ys[i]? = some x → vs[i]? = some v → VRel M w x v := by
  induction ys generalizing off with
  | nil => exact ⟨[], rfl, fun i v hi => by simp at hi, fun i x v hi => by simp at hi⟩
  | cons y ys ih =>
    obtain ⟨v, h1, h2⟩ := h 0 y rfl
    obtain ⟨vs, h3, h4, h5⟩ := @ih (off + 1) (fun j z hj => by
      obtain ⟨v, a, b⟩ := h (j + 1) z (by simpa using hj)
      exact ⟨v, by rw [← a]; congr 2; omega, b⟩)
    refine ⟨v :: vs, by simp [h3], fun i u hi => ?_, fun i x u hi hj => ?_⟩
    · cases i with
      | zero => simp at hi; subst hi; exact h1
      | succ i =>
        have := h4 i u (by simpa using hi)
        rw [← this]; congr 2; omega
    · cases i with
      | zero => simp at hi hj; subst hi; subst hj; exact h2
      | succ i => exact h5 i x u (by simpa using hi) (by simpa using hj)
theorem load_rel {P : Program} {t : TypeId} {M : MM} {w : World} {b off : Nat} {y : AV} (h : CellsRel M w b off (flat y)) (hs : shapeOk P t y) :
    ∃ cv, (loadVar t ⟨b, off, none⟩).run P w = .ok cv w ∧ VRel M w y cv := by
  by_cases hy : ∃ ys, y = .agg ys
  · obtain ⟨ys, rfl⟩ := hy
    obtain ⟨h1, h2⟩ := hs
    obtain ⟨vs, h3, h4, h5⟩ := cells_list h
    have hl : (loadCells ⟨b, off, none⟩ vs.length).run P w = .ok vs.toArray w := run_loadCells_list w _ vs (fun j v hj => by
      have := h4 j v hj
      rwa [Addr.add_lit])
    have hsz : vs.length = P.cellsOf t := by rw [h3]; exact h2
    have hinf : ∃ i, P.info? t = some i := by
      unfold isAggB at h1
      split at h1 <;> first | (split at h1 <;> first | (rename_i hh; exact Option.isSome_iff_exists.1 hh) | cases h1) | cases h1
    obtain ⟨i, hi⟩ := hinf
    have hu : ∃ d, P.underlying t = some d ∧ (d matches .struct _ | .array _ _) = true := by
      unfold isAggB at h1
      split at h1 <;> first | exact ⟨_, by assumption, rfl⟩ | cases h1
    obtain ⟨d, hd, hm⟩ := hu
    refine ⟨.agg vs.toArray, ?_, .agg ys _ (by simpa [flat] using h3) (fun i x v hx hv => h5 i x v hx (by simpa using hv))⟩
    have hsize : i.size = vs.length := by rw [hsz]; simp [Program.cellsOf, hi]
    cases d <;> simp at hm <;> simp [loadVar, isAgg, run_underlying hd, sizeOf, typeInfo, hi, hsize, hl]
  · have hne : ∀ xs, y ≠ .agg xs := fun xs e => hy ⟨xs, e⟩
    rw [flat_leaf hne] at h
    obtain ⟨v, h1, h2⟩ := h 0 y rfl
    have hag : isAggB P t = some false := by
      cases y <;> first | exact hs | exact hs.elim | exact absurd rfl (hne _)
    have hu : ∃ d, P.underlying t = some d ∧ (d matches .struct _ | .array _ _) = false := by
      unfold isAggB at hag
      split at hag
      · split at hag <;> cases hag
      · split at hag <;> cases hag
      · rename_i d hn1 hn2 hd
        refine ⟨d, hd, ?_⟩
        cases d <;> first | rfl | (exact absurd rfl (hn1 _)) | (exact absurd rfl (hn2 _ _))
      · cases hag
    obtain ⟨d, hd, hm⟩ := hu
    refine ⟨v, ?_, h2⟩
    simp only [Nat.add_zero] at h1
    cases d <;> simp at hm <;> simp [loadVar, isAgg, run_underlying hd, h1]
end Go.Am

namespace Go.Am
open Go

/-! ### zero values -/
def eqG : Value → Value → Bool
  | .bool a, .bool b => a == b
  | .int k a, .int k' b => k == k' && a == b
  | .string a, .string b => a.size == 0 && b.size == 0
  | .pointer none, .pointer none | .slice none 0 0, .slice none 0 0 | .map none, .map none | .nilFunc, .nilFunc | .nilIface, .nilIface => true
  | _, _ => false
theorem eqG_eq {a b : Value} (h : eqG a b = true) : a = b ∧ ground a = true := by
  unfold eqG at h
  split at h <;> simp_all [ground]
def zShape (P : Program) : Nat → TypeId → Option AV
  | 0, _ => none
  | d + 1, t => match P.underlying t with
    | some .bool => some (.val (.bool false))
    | some (.int k) => some (.val (.int k 0))
    | some .string => some (.val (.string ⟨#[]⟩))
    | some (.slice _) => some (.val (.slice none 0 0))
    | some (.pointer _) => some (.val (.pointer none))
    | some (.map ..) => some (.val (.map none))
    | some (.func ..) => some (.val .nilFunc)
    | some (.interface _) => some (.val .nilIface)
    | some (.struct fs) => match fs.toList.mapM (fun f => zShape P d f.type) with
      | some l => some (.agg l)
      | none => none
    | some (.array n e) => match zShape P d e with
      | some z => some (.agg (List.replicate n z))
      | none => none
    | _ => none
def zCheck : List AV → List Value → Bool
  | [], [] => true
  | .val a :: xs, b :: bs => eqG a b && zCheck xs bs
  | _, _ => false
/-- the zero value of a type -/
def zAV (P : Program) (t : TypeId) : Option AV := match P.info? t with
  | some i => match i.zero, zShape P 8 t with
    | some zv, some z => if zCheck (flat z) zv.cells.toList && (flat z).length == i.size then some z else none
    | _, _ => none
  | none => none
def layoutOk (P : Program) : Nat → List Field → List AV → Bool
  | _, [], [] => true
  | n, f :: fs, z :: zs => f.offset == n && (P.info? f.type).isSome && P.cellsOf f.type == (flat z).length && layoutOk P (n + (flat z).length) fs zs
  | _, _, _ => false
/-- a struct's parts, all zero -/
def bAV (P : Program) (t : TypeId) : Option (List AV) := match P.underlying t, zAV P t with
  | some (.struct fs), some (.agg zs) => if layoutOk P 0 fs.toList zs then some zs else none
  | _, _ => none

def aalloc (P : Program) (e : TypeId) (h : Heap) (K : AV → Heap → Prop) : Prop := match zAV P e with
  | some z => K (.ptr h.length (flat z).length 0 0 []) (h ++ [some (.arr e (flat z).length [z])])
  | none => False
def partOk : AV → Bool
  | .any | .tup _ => false
  | _ => true
def abuildGo (h : Heap) (K : AV → Heap → Prop) : List AV → List (Nat × AV) → Prop
  | zs, [] => K (.agg zs) h
  | zs, (i, x) :: r => (partOk x = true ∧ ((zs[i]?).map fun z => (flat z).length) = some (flat x).length) ∧ abuildGo h K (zs.set i x) r
def abuild (P : Program) (t : TypeId) (h : Heap) (K : AV → Heap → Prop) (parts : List (Nat × AV)) : Prop := match bAV P t with
  | some zs => abuildGo h K zs parts
  | none => False
def allOk (sz : Nat) : List AV → Prop
  | [] => True
  | x :: xs => ((flat x).length = sz ∧ storable x = true) ∧ allOk sz xs
def abuildSlice (P : Program) (t : TypeId) (len : Nat) (h : Heap) (K : AV → Heap → Prop) (is : List Nat) (xs : List AV) : Prop := match slElem P t with
  | some e => (is = List.range len ∧ len * szOf P e ≤ 16777216 ∧ (zAV P e).isSome = true ∧ allOk (szOf P e) xs) ∧
      K (.sl h.length (szOf P e) 0 len (some len)) (h ++ [some (.arr e (szOf P e) xs)])
  | none => False
/-- room for so many elements -/
def ARoom (n bytes : Nat) : Prop := n * bytes ≤ 140737488355328 ∧ n ≤ 4611686018427387904
def amake (P : Program) (t : TypeId) (h : Heap) (K : AV → Heap → Prop) : AV → AV → Prop
  | .val (.int _ a), .val (.int _ b) => match slElem P t with
    | some e => match zAV P e with
      | some z => (a = b ∧ 0 ≤ a ∧ ARoom a.toNat (P.bytesOf e)) ∧ K (.sl h.length (szOf P e) 0 a.toNat (some a.toNat)) (h ++ [some (.arr e (szOf P e) (List.replicate a.toNat z))])
      | none => False
    | none => False
  | _, _ => False
/-- the elements of a slice -/
def elems (h : Heap) (sz : Nat) : AV → Option (List AV)
  | .val (.slice none 0 0) => some []
  | .emp => some []
  | .il s xs => if s = sz ∨ xs = [] then some xs else none
  | .sl o s off len _ => match h[o]? with
    | some (some (.arr _ s' xs)) => if s = sz ∧ s' = sz ∧ off + len ≤ xs.length then some ((xs.drop off).take len) else none
    | _ => none
  | _ => none
def AEmp (ys : List AV) (a b : Unit → Prop) : Prop := (ys = [] → a ()) ∧ (ys ≠ [] → b ())
def aappGo (P : Program) (e : TypeId) (h : Heap) (K : AV → Heap → Prop) (ys : List AV) : AV → Prop
  | .val (.slice none 0 0) => ARoom ys.length (P.bytesOf e) ∧ AEmp ys (tK K (.val (.slice none 0 0)) h) (tK K (.sl h.length (szOf P e) 0 ys.length none) (h ++ [some (.arr e (szOf P e) ys)]))
  | .emp => ARoom ys.length (P.bytesOf e) ∧ AEmp ys (tK K .emp h) (tK K (.sl h.length (szOf P e) 0 ys.length none) (h ++ [some (.arr e (szOf P e) ys)]))
  | .sl o s off len c => match elems h (szOf P e) (.sl o s off len c), h[o]? with
    | some xs, some (some (.arr e' _ _)) => (e' = e ∧ ARoom (len + ys.length) (P.bytesOf e)) ∧ K (.sl h.length (szOf P e) 0 (len + ys.length) none) (h.set o none ++ [some (.arr e (szOf P e) (xs ++ ys))])
    | _, _ => False
  | _ => False
def aapp (P : Program) (ts : List TypeId) (h : Heap) (K : AV → Heap → Prop) (s x : AV) : Prop := match ts with
  | [t, u] => match slElem P t, slElem P u with
    | some e, some _ => match elems h (szOf P e) x with
      | some ys => (zAV P e).isSome = true ∧ aappGo P e h K ys s
      | none => False
    | _, _ => False
  | _ => False
def sbound (d : Int) : Option AV → Option Int
  | none => some d
  | some (.val (.int _ n)) => some n
  | _ => none
def ABnd (l n m : Int) : Prop := 0 ≤ l ∧ l ≤ n ∧ n ≤ m
def aslice (P : Program) (t : TypeId) (h : Heap) (K : AV → Heap → Prop) (lo hi mx : Option AV) (x : AV) : Prop := match slElem P t with
  | none => False
  | some e => match mx with
    | none => match x with
      | .il sz xs => match sbound 0 lo, sbound xs.length hi with
        | some l, some n => szOf P e = sz ∧ ABnd l n xs.length ∧ K (.il sz ((xs.drop l.toNat).take (n.toNat - l.toNat))) h
        | _, _ => False
      | .sl o sz off len c => match sbound 0 lo, sbound len hi with
        | some l, some n => szOf P e = sz ∧ ABnd l n len ∧ K (.sl o sz (off + l.toNat) (n.toNat - l.toNat) (c.map (· - l.toNat))) h
        | _, _ => False
      | .val (.slice none 0 0) => match sbound 0 lo, sbound 0 hi with
        | some l, some n => l = 0 ∧ n = 0 ∧ K (.val (.slice none 0 0)) h
        | _, _ => False
      | _ => False
    | some (.val (.int _ m)) => match lo, hi with
      | none, some (.val (.int _ n)) => (m = 0 ∧ n = 0) ∧ match x with
        | .il .. | .emp | .val (.slice none 0 0) => K .emp h
        | .sl .. => K .emp h
        | _ => False
      | _, _ => False
    | _ => False
def acap (h : Heap) (K : AV → Heap → Prop) : AV → Prop
  | .emp => K (.val (.int .i64 0)) h
  | .val (.slice none 0 0) => K (.val (.int .i64 0)) h
  | .sl _ _ _ _ (some c) => K (.val (.int .i64 c)) h
  | _ => False

def Post (M : MM) (w : World) (n : Nat) (K : AV → Heap → Prop) (cv : Value) (w' : World) : Prop :=
  ∃ y h' M', K y h' ∧ Inv M' h' w' ∧ VRel M' w' y cv ∧ Ev M w M' w' ∧ (∀ o, o < n → M o = .absent → M' o = .absent) ∧ n ≤ h'.length

def Enterable (P : Program) (f : FuncId) : Prop := ∃ fn, P.funcs[f]? = some fn ∧ fn.body.isNone = false ∧ (fn.name == "runtime.NumGoroutine") = false
/-- the call comes back, and what comes back, and the heap, are as K says -/
def RunsK (P : Program) (f : FuncId) (args : List AV) (h : Heap) (K : AV → Heap → Prop) : Prop :=
  Enterable P f ∧ ∀ (M : MM) (w : World) (cargs : Array Value), Inv M h w → Tmps M w args cargs →
    Calls P f cargs w fun e w' => ∃ v, e = .returned v ∧ Post M w h.length K v w'

def acall (P : Program) (h : Heap) (args : List AV) (K : AV → Heap → Prop) : AV → Prop
  | .fn (.func g) first cap => RunsK P g (first ++ args ++ cap) h K
  | _ => False
theorem acall_fn {P h args K g first cap} : acall P h args K (.fn (.func g) first cap) = RunsK P g (first ++ args ++ cap) h K := nr rfl

def abuiltin (P : Program) (b : Builtin) (ts : List TypeId) (h : Heap) (args : List AV) (K : AV → Heap → Prop) : Prop :=
  match b, args with
  | .len, [x] => match ts with
    | [t] => (slElem P t).isSome = true ∧ alen h K x
    | _ => False
  | .cap, [x] => match ts with
    | [t] => (slElem P t).isSome = true ∧ acap h K x
    | _ => False
  | .append, [s, x] => aapp P ts h K s x
  | _, _ => False

def aop (P : Program) (o : Oper) (tm : List AV) (h : Heap) (K : AV → Heap → Prop) : Prop :=
  match o.op with
  | .move x | .assign x => K (rho tm x) h
  | .pick c a b => apick h (rho tm a) (rho tm b) K (rho tm c)
  | .fieldAddr s x f => afield P s f h K (rho tm x)
  | .indexAddr t x i => aindex P t h K (rho tm x) (rho tm i)
  | .load t x => aload P t h K (rho tm x)
  | .store t x v => astore P t h (rho tm v) K (rho tm x)
  | .binOp op t x y _ => abin P t op h K (rho tm x) (rho tm y)
  | .unOp .not _ x => anot h K (rho tm x)
  | .unOp .neg _ x => aneg h K (rho tm x)
  | .convert src dst x => aconv P src dst h K (rho tm x)
  | .nilCheck x => anil h (rho tm x) K
  | .box e x => abox e h K (rho tm x)
  | .alloc e => aalloc P e h K
  | .build t ps => abuild P t h K (ps.toList.map fun p => (p.1, rho tm p.2))
  | .buildSlice t len ps => abuildSlice P t len h K (ps.toList.map (·.1)) (ps.toList.map fun p => rho tm p.2)
  | .makeSlice t l c => amake P t h K (rho tm l) (rho tm c)
  | .slice t x lo hi mx => aslice P t h K (lo.map (rho tm)) (hi.map (rho tm)) (mx.map (rho tm)) (rho tm x)
  | .makeFunc f first cap => K (.fn f (first.toList.map (rho tm)) (cap.toList.map (rho tm))) h
  | .extract x i => aext h i K (rho tm x)
  | .call c => match c.callee with
    | .builtin b => abuiltin P b c.argTypes.toList h (c.args.toList.map (rho tm)) K
    | .value f => acall P h (c.args.toList.map (rho tm)) K (rho tm f)
    | _ => False
  | _ => False
end Go.Am
