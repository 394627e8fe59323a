/- A part of the proof that AliasThings and AliasMeets return true for every module: texts on an abstract reading of the code (AmEx). -/
import Derived.Test.YtdmaniffgdpfeaaXAmFrz
set_option linter.unusedVariables false
set_option linter.unusedSimpArgs false
set_option linter.unusedSectionVars false
set_option linter.unusedVariables false
namespace Go.Am
open Go

/-! ### the machine run: what an operation gives, as a function -/
def xshape (P : Program) (t : TypeId) : AV → Bool
  | .agg ys => (isAggB P t == some true) && Nat.beq (flats ys).length (szOf P t)
  | .any => false
  | .tup _ => false
  | _ => isAggB P t == some false
theorem xshape_ok {P t x} (h : xshape P t x = true) : shapeOk P t x := by
  cases x <;> simp_all [xshape, shapeOk]
def xguard {α : Type} (b : Bool) (x : Option α) : Option α := match b with
  | true => x
  | false => none
theorem xguard_some {α : Type} {b : Bool} {x : Option α} {y : α} (h : xguard b x = some y) : b = true ∧ x = some y := by
  cases b <;> simp_all [xguard]
theorem nbq {a b : Nat} : Nat.beq a b = true ↔ a = b := ⟨Nat.eq_of_beq_eq_true, fun h => h ▸ Nat.beq_refl a⟩
theorem nbf {a b : Nat} : Nat.beq a b = false ↔ a ≠ b := by
  rw [← Bool.not_eq_true, nbq]
theorem nlt {a b : Nat} : Nat.blt a b = true ↔ a < b := by rw [Nat.blt_eq]
def eqOff : Option Nat → Nat → Bool
  | some a, b => Nat.beq a b
  | none, _ => false
theorem eqOff_ok {a b} (h : eqOff a b = true) : a = some b := by
  cases a with
  | none => simp [eqOff] at h
  | some a => rw [eqOff, nbq] at h; rw [h]
def xload (P : Program) (t : TypeId) (h : Heap) : AV → Option AV
  | .iptr y => xguard (xshape P t y) (some y)
  | .ptr o sz i k p => match h[o]? with
    | some (some (.arr _ s xs)) => xguard (Nat.beq s sz && Nat.blt i xs.length && eqOff ((xs.getD i .any).offs p) k)
        (match (xs.getD i .any).sub p with
        | some y => xguard (xshape P t y) (some y)
        | none => none)
    | _ => none
  | _ => none
theorem xload_ok {P t h x y} {K : AV → Heap → Prop} (e : xload P t h x = some y) (hk : K y h) : aload P t h K x := by
  unfold xload at e
  split at e
  · obtain ⟨h1, h2⟩ := xguard_some e
    cases h2
    exact ⟨xshape_ok h1, hk⟩
  · rename_i o sz i k p
    split at e
    · rename_i heq
      obtain ⟨h1, h2⟩ := xguard_some e
      simp only [Bool.and_eq_true, nbq] at h1
      split at h2
      · rename_i y' heq2
        obtain ⟨h3, h4⟩ := xguard_some h2
        cases h4
        simp only [aload, heq, heq2]
        exact ⟨h1.1.1, nlt.1 h1.1.2, eqOff_ok h1.2, xshape_ok h3, hk⟩
      · cases h2
    · cases e
  · cases e
def xstore (P : Program) (t : TypeId) (h : Heap) (v : AV) : AV → Option Heap
  | .ptr o sz i k p => match h[o]? with
    | some (some (.arr e s xs)) => xguard (Nat.beq s sz && Nat.blt i xs.length && eqOff ((xs.getD i .any).offs p) k)
      (match (xs.getD i .any).sub p with
      | some y => xguard ((P.info? t).isSome && !(Nat.beq (szOf P t) 0) && Nat.beq (flat v).length (szOf P t) && Nat.beq (flat y).length (szOf P t) && storable v)
        (match (xs.getD i .any).upd p v with
        | some z => some (h.set o (some (.arr e s (xs.set i z))))
        | none => none)
      | none => none)
    | _ => none
  | _ => none
theorem xstore_ok {P t h v x h'} {K : AV → Heap → Prop} (e : xstore P t h v x = some h') (hk : K (.tup []) h') : astore P t h v K x := by
  unfold xstore at e
  split at e
  · rename_i o sz i k p
    split at e
    · rename_i heq
      obtain ⟨h1, h2⟩ := xguard_some e
      simp only [Bool.and_eq_true, nbq] at h1
      split at h2
      · rename_i y' heq2
        obtain ⟨h3, h4⟩ := xguard_some h2
        simp only [Bool.and_eq_true, nbq, Bool.not_eq_true', nbf] at h3
        split at h4
        · rename_i z heq3
          cases h4
          simp only [astore, heq, heq2, heq3]
          obtain ⟨⟨⟨⟨a, b⟩, c⟩, d⟩, f⟩ := h3
          exact ⟨h1.1.1, nlt.1 h1.1.2, eqOff_ok h1.2, ⟨a, b⟩, c, d, f, hk⟩
        · cases h4
      · cases h2
    · cases e
  · cases e
def elemSz (P : Program) (t sz : Nat) : Bool := eqOff ((slElem P t).map (szOf P)) sz
def xindex (P : Program) (t : TypeId) (x i : AV) : Option AV :=
  match x, i with
  | .il sz xs, .val (.int _ n) => xguard (elemSz P t sz && decide (0 ≤ n) && Nat.blt n.toNat xs.length) (some (.iptr (xs.getD n.toNat .any)))
  | .sl o sz off len _, .val (.int _ n) => xguard (elemSz P t sz && decide (0 ≤ n) && Nat.blt n.toNat len) (some (.ptr o sz (off + n.toNat) 0 []))
  | .ptr o sz i k p, .val (.int _ n) => match arElem P t with
    | some (len, es) => xguard (decide (0 ≤ n) && Nat.blt n.toNat len) (some (.ptr o sz i (k + n.toNat * es) (p ++ [n.toNat])))
    | none => none
  | _, _ => none
theorem xindex_ok {P t h x i y} {K : AV → Heap → Prop} (e : xindex P t x i = some y) (hk : K y h) : aindex P t h K x i := by
  unfold xindex at e
  split at e
  · obtain ⟨h1, h2⟩ := xguard_some e
    simp only [Bool.and_eq_true, decide_eq_true_eq] at h1
    cases h2
    have := nlt.1 h1.2
    exact ⟨eqOff_ok h1.1.1, ⟨h1.1.2, by omega⟩, hk⟩
  · obtain ⟨h1, h2⟩ := xguard_some e
    simp only [Bool.and_eq_true, decide_eq_true_eq] at h1
    cases h2
    have := nlt.1 h1.2
    exact ⟨eqOff_ok h1.1.1, ⟨h1.1.2, by omega⟩, hk⟩
  · split at e
    · rename_i len es har
      obtain ⟨h1, h2⟩ := xguard_some e
      simp only [Bool.and_eq_true, decide_eq_true_eq] at h1
      cases h2
      have := nlt.1 h1.2
      rw [aindex_ptr, har, aarrP_some]
      exact ⟨⟨h1.1, by omega⟩, hk⟩
    · cases e
  · cases e
def xfield (P : Program) (s f : Nat) : AV → Option AV
  | .ptr o sz i k p => match fOff P s f with
    | some n => some (.ptr o sz i (k + n) (p ++ [f]))
    | none => none
  | .iptr (.agg xs) => match fOff P s f, xs[f]? with
    | some n, some y => xguard (Nat.beq (flats (xs.take f)).length n) (some (.iptr y))
    | _, _ => none
  | _ => none
theorem xfield_ok {P s f h x y} {K : AV → Heap → Prop} (e : xfield P s f x = some y) (hk : K y h) : afield P s f h K x := by
  unfold xfield at e
  split at e
  · split at e
    · rename_i heq; cases e; simp only [afield, heq]; exact hk
    · cases e
  · split at e
    · rename_i heq1 heq2
      obtain ⟨h1, h2⟩ := xguard_some e
      cases h2
      simp only [afield, heq1, heq2]
      exact ⟨nbq.1 h1, hk⟩
    · cases e
  · cases e
def xlen : AV → Option Int
  | .il _ xs => some xs.length
  | .sl _ _ _ n _ => some n
  | .emp => some 0
  | .val (.slice none 0 0) => some 0
  | _ => none
theorem xlen_ok {h x n} {K : AV → Heap → Prop} (e : xlen x = some n) (hk : K (.val (.int .i64 n)) h) : alen h K x := by
  unfold xlen at e
  split at e <;> first | (cases e; exact hk) | cases e
def xcap : AV → Option Int
  | .emp => some 0
  | .val (.slice none 0 0) => some 0
  | .sl _ _ _ _ (some c) => some c
  | _ => none
theorem xcap_ok {h x n} {K : AV → Heap → Prop} (e : xcap x = some n) (hk : K (.val (.int .i64 n)) h) : acap h K x := by
  unfold xcap at e
  split at e <;> first | (cases e; exact hk) | cases e
def beqK : IntKind → IntKind → Bool
  | .i8, .i8 | .i16, .i16 | .i32, .i32 | .i64, .i64 | .u8, .u8 | .u16, .u16 | .u32, .u32 | .u64, .u64 => true
  | _, _ => false
theorem beqK_ok {a b} (h : beqK a b = true) : a = b := by
  cases a <;> cases b <;> simp_all [beqK]
def xeqb (op : BinOp) (b : Bool) : Option AV := match op with
  | .eql => some (.val (.bool b))
  | .neq => some (.val (.bool (!b)))
  | _ => none
theorem xeqb_ok {op h b y} {K : AV → Heap → Prop} (e : xeqb op b = some y) (hk : K y h) : aeqb op h K b := by
  unfold xeqb at e
  split at e <;> first | (cases e; exact hk) | cases e
def vI (k : IntKind) (n : Int) : AV := .val (.int k n)
def vB (b : Bool) : AV := .val (.bool b)
def ieq (a b : Int) : Bool := match a, b with
  | .ofNat m, .ofNat n => Nat.beq m n
  | .negSucc m, .negSucc n => Nat.beq m n
  | _, _ => false
theorem ieq_ok {a b} : ieq a b = (a == b) := by
  unfold ieq
  split
  · rename_i m n; rw [Bool.eq_iff_iff, nbq, beq_iff_eq]; exact ⟨fun h => by rw [h], fun h => by cases h; rfl⟩
  · rename_i m n; rw [Bool.eq_iff_iff, nbq, beq_iff_eq]; exact ⟨fun h => by rw [h], fun h => by cases h; rfl⟩
  · rename_i h1 h2
    symm
    rw [beq_eq_false_iff_ne]
    intro e
    subst e
    cases a
    · exact h1 _ _ rfl rfl
    · exact h2 _ _ rfl rfl
def xbinI (op : BinOp) (k k' : IntKind) (a b : Int) : Option AV := match op with
    | .add => xguard (beqK k k') (some (vI k (k.wrap (a + b))))
    | .sub => xguard (beqK k k') (some (vI k (k.wrap (a - b))))
    | .mul => xguard (beqK k k') (some (vI k (k.wrap (a * b))))
    | .eql => xguard (beqK k k') (some (vB (ieq a b)))
    | .neq => xguard (beqK k k') (some (vB (!ieq a b)))
    | .lss => xguard (beqK k k') (some (vB (decide (a < b))))
    | .leq => xguard (beqK k k') (some (vB (decide (a ≤ b))))
    | .gtr => xguard (beqK k k') (some (vB (decide (a > b))))
    | .geq => xguard (beqK k k') (some (vB (decide (a ≥ b))))
    | .quo => xguard (beqK k k' && !ieq b 0) (some (vI k (k.wrap (a.tdiv b))))
    | .rem => xguard (beqK k k' && !ieq b 0) (some (vI k (a.tmod b)))
    | .and => xguard (beqK k k') (some (vI k (k.wrap ((BitVec.ofInt k.bits a &&& BitVec.ofInt k.bits b).toNat : Int))))
    | .or => xguard (beqK k k') (some (vI k (k.wrap ((BitVec.ofInt k.bits a ||| BitVec.ofInt k.bits b).toNat : Int))))
    | .xor => xguard (beqK k k') (some (vI k (k.wrap ((BitVec.ofInt k.bits a ^^^ BitVec.ofInt k.bits b).toNat : Int))))
    | .shl => xguard (decide (0 ≤ b)) (some (vI k (k.wrap (a * 2 ^ min b.toNat k.bits))))
    | .shr => xguard (decide (0 ≤ b)) (some (vI k (a.fdiv (2 ^ min b.toNat k.bits))))
    | _ => none
def xbin (P : Program) (t : TypeId) (op : BinOp) (x y : AV) : Option AV :=
  match x, y with
  | .val (.int k a), .val (.int k' b) => xbinI op k k' a b
  | .val (.bool a), .val (.bool b) => xguard (isBoolT P t) (xeqb op (a == b))
  | .sl .., .val (.slice none 0 0) => xguard (slElem P t).isSome (xeqb op false)
  | .val (.slice none 0 0), .val (.slice none 0 0) => xguard (slElem P t).isSome (xeqb op true)
  | .ptr .., .val (.pointer none) => xguard (isPtrT P t) (xeqb op false)
  | .iptr _, .val (.pointer none) => xguard (isPtrT P t) (xeqb op false)
  | .val (.pointer none), .val (.pointer none) => xguard (isPtrT P t) (xeqb op true)
  | _, _ => none
theorem xbin_ok {P t op h x y z} {K : AV → Heap → Prop} (e : xbin P t op x y = some z) (hk : K z h) : abin P t op h K x y := by
  unfold xbin at e
  split at e
  · unfold xbinI at e
    simp only [abin]
    split at e <;> first
      | cases e; done
      | (obtain ⟨h1, h2⟩ := xguard_some e
         (try simp only [Bool.and_eq_true, Bool.not_eq_true', ieq_ok, decide_eq_true_eq, beq_eq_false_iff_ne] at h1)
         cases h2
         first
           | exact ⟨beqK_ok h1, hk⟩
           | exact ⟨beqK_ok h1, by simpa [ieq_ok, vB, bne] using hk⟩
           | exact ⟨beqK_ok h1.1, h1.2, hk⟩
           | exact ⟨h1, hk⟩)
  all_goals first
    | cases e; done
    | (obtain ⟨h1, h2⟩ := xguard_some e
       exact ⟨h1, xeqb_ok h2 hk⟩)
def xneg : AV → Option AV
  | .val (.int k b) => some (vI k (k.wrap (0 - b)))
  | _ => none
def xnot : AV → Option AV
  | .val (.bool b) => some (vB (!b))
  | _ => none
def xpick (a b : AV) : AV → Option AV
  | .val (.bool true) => some a
  | .val (.bool false) => some b
  | _ => none
def xconv (P : Program) (s d : TypeId) : AV → Option AV
  | .val (.int _ n) => match intOf P s, intOf P d with
    | some _, some k => some (vI k (k.wrap n))
    | _, _ => none
  | _ => none
def xnil (x : AV) : Option AV := match x with
  | .ptr .. | .iptr _ | .fn (.func _) _ _ => some x
  | _ => none
def xext (i : Nat) : AV → Option AV
  | .tup xs => xs[i]?
  | _ => none
theorem xneg_ok {h x y} {K : AV → Heap → Prop} (e : xneg x = some y) (hk : K y h) : aneg h K x := by
  unfold xneg at e; split at e <;> first | (cases e; exact hk) | cases e
theorem xnot_ok {h x y} {K : AV → Heap → Prop} (e : xnot x = some y) (hk : K y h) : anot h K x := by
  unfold xnot at e; split at e <;> first | (cases e; exact hk) | cases e
theorem xpick_ok {h a b x y} {K : AV → Heap → Prop} (e : xpick a b x = some y) (hk : K y h) : apick h a b K x := by
  unfold xpick at e
  split at e
  · cases e; rw [apick_bool, AIf_true]; exact hk
  · cases e; rw [apick_bool, AIf_false]; exact hk
  · cases e
theorem xconv_ok {P s d h x y} {K : AV → Heap → Prop} (e : xconv P s d x = some y) (hk : K y h) : aconv P s d h K x := by
  unfold xconv at e
  split at e
  · split at e
    · rename_i h1 h2; cases e; simp only [aconv, h1, h2]; exact hk
    · cases e
  · cases e
theorem xnil_ok {h x y} {K : AV → Heap → Prop} (e : xnil x = some y) (hk : K y h) : anil h x K := by
  unfold xnil at e
  split at e <;> first | (cases e; exact hk) | cases e
theorem xext_ok {h i x y} {K : AV → Heap → Prop} (e : xext i x = some y) (hk : K y h) : aext h i K x := by
  unfold xext at e
  split at e
  · simp only [aext, e]; exact hk
  · cases e
def xbuildGo : List AV → List (Nat × AV) → Option AV
  | zs, [] => some (.agg zs)
  | zs, (i, x) :: r => xguard (partOk x && eqOff ((zs[i]?).map fun z => (flat z).length) (flat x).length) (xbuildGo (zs.set i x) r)
theorem xbuildGo_ok {h y} {K : AV → Heap → Prop} (ps : List (Nat × AV)) : ∀ zs, xbuildGo zs ps = some y → K y h → abuildGo h K zs ps := by
  induction ps with
  | nil => intro zs e hk; simp only [xbuildGo] at e; cases e; simpa [abuildGo] using hk
  | cons p ps ih =>
    intro zs e hk
    obtain ⟨i, x⟩ := p
    simp only [xbuildGo] at e
    obtain ⟨h1, h2⟩ := xguard_some e
    simp only [Bool.and_eq_true] at h1
    unfold abuildGo
    exact ⟨⟨h1.1, eqOff_ok h1.2⟩, ih _ h2 hk⟩
def xbuild (P : Program) (t : TypeId) (ps : List (Nat × AV)) : Option AV := match bAV P t with
  | some zs => xbuildGo zs ps
  | none => none
theorem xbuild_ok {P t h ps y} {K : AV → Heap → Prop} (e : xbuild P t ps = some y) (hk : K y h) : abuild P t h K ps := by
  unfold xbuild at e
  split at e
  · rename_i heq; simp only [abuild, heq]; exact xbuildGo_ok _ _ e hk
  · cases e
def xallOk (sz : Nat) (xs : List AV) : Bool := xs.all fun x => Nat.beq (flat x).length sz && storable x
theorem xallOk_ok {sz xs} (h : xallOk sz xs = true) : allOk sz xs := by
  induction xs with
  | nil => trivial
  | cons x xs ih =>
    simp only [xallOk, List.all_cons, Bool.and_eq_true, nbq] at h
    exact ⟨h.1, ih h.2⟩
def natsEq : List Nat → List Nat → Bool
  | [], [] => true
  | a :: l, b :: m => Nat.beq a b && natsEq l m
  | _, _ => false
theorem natsEq_ok : ∀ {l m}, natsEq l m = true → l = m
  | [], [], _ => rfl
  | a :: l, b :: m, h => by
    simp only [natsEq, Bool.and_eq_true, nbq] at h
    rw [h.1, natsEq_ok h.2]
  | [], _ :: _, h => by simp [natsEq] at h
  | _ :: _, [], h => by simp [natsEq] at h
def xbuildSlice (P : Program) (t : TypeId) (len : Nat) (h : Heap) (is : List Nat) (xs : List AV) : Option (AV × Heap) := match slElem P t with
  | some e => xguard (natsEq is (List.range len) && Nat.ble (len * szOf P e) 16777216 && (zAV P e).isSome && xallOk (szOf P e) xs)
      (some (.sl h.length (szOf P e) 0 len (some len), h ++ [some (.arr e (szOf P e) xs)]))
  | none => none
theorem xbuildSlice_ok {P t len h is xs y h'} {K : AV → Heap → Prop} (e : xbuildSlice P t len h is xs = some (y, h')) (hk : K y h') : abuildSlice P t len h K is xs := by
  unfold xbuildSlice at e
  split at e
  · rename_i heq
    obtain ⟨h1, h2⟩ := xguard_some e
    simp only [Bool.and_eq_true] at h1
    cases h2
    simp only [abuildSlice, heq]
    exact ⟨⟨natsEq_ok h1.1.1.1, Nat.le_of_ble_eq_true h1.1.1.2, h1.1.2, xallOk_ok h1.2⟩, hk⟩
  · cases e
def xroom (n bytes : Nat) : Bool := Nat.ble (n * bytes) 140737488355328 && Nat.ble n 4611686018427387904
theorem xroom_ok {n b} (h : xroom n b = true) : ARoom n b := by
  simp only [xroom, Bool.and_eq_true] at h
  exact ⟨Nat.le_of_ble_eq_true h.1, Nat.le_of_ble_eq_true h.2⟩
def xmake (P : Program) (t : TypeId) (h : Heap) : AV → AV → Option (AV × Heap)
  | .val (.int _ a), .val (.int _ b) => match slElem P t with
    | some e => match zAV P e with
      | some z => xguard (ieq a b && decide (0 ≤ a) && xroom a.toNat (P.bytesOf e)) (some (.sl h.length (szOf P e) 0 a.toNat (some a.toNat), h ++ [some (.arr e (szOf P e) (List.replicate a.toNat z))]))
      | none => none
    | none => none
  | _, _ => none
theorem xmake_ok {P t h x z y h'} {K : AV → Heap → Prop} (e : xmake P t h x z = some (y, h')) (hk : K y h') : amake P t h K x z := by
  unfold xmake at e
  split at e
  · split at e
    · rename_i heq1
      split at e
      · rename_i heq2
        obtain ⟨h1, h2⟩ := xguard_some e
        simp only [Bool.and_eq_true, decide_eq_true_eq, ieq_ok, beq_iff_eq] at h1
        cases h2
        simp only [amake, heq1, heq2]
        exact ⟨⟨h1.1.1, h1.1.2, xroom_ok h1.2⟩, hk⟩
      · cases e
    · cases e
  · cases e
def xelems (h : Heap) (sz : Nat) : AV → Option (List AV)
  | .val (.slice none 0 0) => some []
  | .emp => some []
  | .il s xs => xguard (Nat.beq s sz || xs.isEmpty) (some xs)
  | .sl o s off len _ => match h[o]? with
    | some (some (.arr _ s' xs)) => xguard (Nat.beq s sz && Nat.beq s' sz && Nat.ble (off + len) xs.length) (some ((xs.drop off).take len))
    | _ => none
  | _ => none
theorem xelems_ok {h sz x ys} (e : xelems h sz x = some ys) : elems h sz x = some ys := by
  unfold xelems at e
  split at e
  · cases e; rfl
  · cases e; rfl
  · obtain ⟨h1, h2⟩ := xguard_some e
    cases h2
    simp only [elems]
    rw [if_pos]
    simpa using h1
  · split at e
    · rename_i heq
      obtain ⟨h1, h2⟩ := xguard_some e
      cases h2
      simp only [elems, heq]
      simp only [Bool.and_eq_true, nbq] at h1
      rw [if_pos ⟨h1.1.1, h1.1.2, Nat.le_of_ble_eq_true h1.2⟩]
    · cases e
  · cases e
def xappGo (P : Program) (e : TypeId) (h : Heap) (ys : List AV) : AV → Option (AV × Heap)
  | .val (.slice none 0 0) => xguard (xroom ys.length (P.bytesOf e)) (match ys with
    | [] => some (.val (.slice none 0 0), h)
    | _ => some (.sl h.length (szOf P e) 0 ys.length none, h ++ [some (.arr e (szOf P e) ys)]))
  | .emp => xguard (xroom ys.length (P.bytesOf e)) (match ys with
    | [] => some (.emp, h)
    | _ => some (.sl h.length (szOf P e) 0 ys.length none, h ++ [some (.arr e (szOf P e) ys)]))
  | .sl o s off len c => match xelems h (szOf P e) (.sl o s off len c), h[o]? with
    | some xs, some (some (.arr e' _ _)) => xguard (Nat.beq e' e && xroom (len + ys.length) (P.bytesOf e))
        (some (.sl h.length (szOf P e) 0 (len + ys.length) none, h.set o none ++ [some (.arr e (szOf P e) (xs ++ ys))]))
    | _, _ => none
  | _ => none
theorem xappGo_ok {P e h ys x y h'} {K : AV → Heap → Prop} (he : xappGo P e h ys x = some (y, h')) (hk : K y h') : aappGo P e h K ys x := by
  unfold xappGo at he
  split at he
  · obtain ⟨h1, h2⟩ := xguard_some he
    refine ⟨xroom_ok h1, ?_⟩
    split at h2
    · cases h2; rw [AEmp_nil]; exact hk
    · rename_i hne; cases h2; exact ⟨fun e => (hne e).elim, fun _ => hk⟩
  · obtain ⟨h1, h2⟩ := xguard_some he
    refine ⟨xroom_ok h1, ?_⟩
    split at h2
    · cases h2; rw [AEmp_nil]; exact hk
    · rename_i hne; cases h2; exact ⟨fun e => (hne e).elim, fun _ => hk⟩
  · split at he
    · rename_i heq1 heq2
      obtain ⟨h1, h2⟩ := xguard_some he
      cases h2
      simp only [Bool.and_eq_true, nbq] at h1
      simp only [aappGo, xelems_ok heq1, heq2]
      exact ⟨⟨h1.1, xroom_ok h1.2⟩, hk⟩
    · cases he
  · cases he
def xapp (P : Program) (ts : List TypeId) (h : Heap) (s x : AV) : Option (AV × Heap) := match ts with
  | [t, u] => match slElem P t, slElem P u with
    | some e, some _ => match xelems h (szOf P e) x with
      | some ys => xguard (zAV P e).isSome (xappGo P e h ys s)
      | none => none
    | _, _ => none
  | _ => none
theorem xapp_ok {P ts h s x y h'} {K : AV → Heap → Prop} (e : xapp P ts h s x = some (y, h')) (hk : K y h') : aapp P ts h K s x := by
  unfold xapp at e
  split at e
  · split at e
    · rename_i heq1 heq2
      split at e
      · rename_i heq3
        obtain ⟨h1, h2⟩ := xguard_some e
        simp only [aapp, heq1, heq2, xelems_ok heq3]
        exact ⟨h1, xappGo_ok h2 hk⟩
      · cases e
    · cases e
  · cases e
def xbnd (l n m : Int) : Bool := decide (0 ≤ l) && decide (l ≤ n) && decide (n ≤ m)
theorem xbnd_ok {l n m} (h : xbnd l n m = true) : ABnd l n m := by
  simp only [xbnd, Bool.and_eq_true, decide_eq_true_eq] at h
  exact ⟨h.1.1, h.1.2, h.2⟩
def xslice (P : Program) (t : TypeId) (lo hi mx : Option AV) (x : AV) : Option AV := match slElem P t with
  | none => none
  | some e => match mx with
    | none => match x with
      | .il sz xs => match sbound 0 lo, sbound xs.length hi with
        | some l, some n => xguard (Nat.beq (szOf P e) sz && xbnd l n xs.length) (some (.il sz ((xs.drop l.toNat).take (n.toNat - l.toNat))))
        | _, _ => none
      | .sl o sz off len c => match sbound 0 lo, sbound len hi with
        | some l, some n => xguard (Nat.beq (szOf P e) sz && xbnd l n len) (some (.sl o sz (off + l.toNat) (n.toNat - l.toNat) (c.map (· - l.toNat))))
        | _, _ => none
      | .val (.slice none 0 0) => match sbound 0 lo, sbound 0 hi with
        | some l, some n => xguard (ieq l 0 && ieq n 0) (some (.val (.slice none 0 0)))
        | _, _ => none
      | _ => none
    | _ => none
theorem xslice_ok {P t lo hi mx h x y} {K : AV → Heap → Prop} (e : xslice P t lo hi mx x = some y) (hk : K y h) : aslice P t h K lo hi mx x := by
  unfold xslice at e
  split at e
  · cases e
  · rename_i heq
    split at e
    · split at e
      · split at e
        · rename_i h1 h2
          obtain ⟨h3, h4⟩ := xguard_some e
          cases h4
          simp only [Bool.and_eq_true, nbq] at h3
          simp only [aslice, heq, h1, h2]
          exact ⟨h3.1, xbnd_ok h3.2, hk⟩
        · cases e
      · split at e
        · rename_i h1 h2
          obtain ⟨h3, h4⟩ := xguard_some e
          cases h4
          simp only [Bool.and_eq_true, nbq] at h3
          simp only [aslice, heq, h1, h2]
          exact ⟨h3.1, xbnd_ok h3.2, hk⟩
        · cases e
      · split at e
        · rename_i h1 h2
          obtain ⟨h3, h4⟩ := xguard_some e
          cases h4
          simp only [Bool.and_eq_true, ieq_ok, beq_iff_eq] at h3
          simp only [aslice, heq, h1, h2]
          exact ⟨h3.1, h3.2, hk⟩
        · cases e
      · cases e
    · cases e
abbrev XCall := FuncId → List AV → Heap → Option (AV × Heap)
def pureX (h : Heap) : Option AV → Option (AV × Heap)
  | some y => some (y, h)
  | none => none
theorem pureX_some {h x y h'} (e : pureX h x = some (y, h')) : x = some y ∧ h' = h := by
  cases x <;> simp_all [pureX]
def xbuiltin (P : Program) (b : Builtin) (ts : List TypeId) (h : Heap) (args : List AV) : Option (AV × Heap) :=
  match b, args with
  | .len, [x] => match ts with
    | [t] => xguard (slElem P t).isSome (pureX h ((xlen x).map (vI .i64)))
    | _ => none
  | .cap, [x] => match ts with
    | [t] => xguard (slElem P t).isSome (pureX h ((xcap x).map (vI .i64)))
    | _ => none
  | .append, [s, x] => xapp P ts h s x
  | _, _ => none
theorem xbuiltin_ok {P b ts h args y h'} {K : AV → Heap → Prop} (e : xbuiltin P b ts h args = some (y, h')) (hk : K y h') : abuiltin P b ts h args K := by
  unfold xbuiltin at e
  split at e
  · split at e
    · obtain ⟨h1, h2⟩ := xguard_some e
      obtain ⟨h3, rfl⟩ := pureX_some h2
      simp only [Option.map_eq_some_iff] at h3
      obtain ⟨n, h4, rfl⟩ := h3
      exact ⟨h1, xlen_ok h4 hk⟩
    · cases e
  · split at e
    · obtain ⟨h1, h2⟩ := xguard_some e
      obtain ⟨h3, rfl⟩ := pureX_some h2
      simp only [Option.map_eq_some_iff] at h3
      obtain ⟨n, h4, rfl⟩ := h3
      exact ⟨h1, xcap_ok h4 hk⟩
    · cases e
  · exact xapp_ok e hk
  · cases e
def xcall (call : XCall) (h : Heap) (args : List AV) : AV → Option (AV × Heap)
  | .fn (.func g) first cap => call g (first ++ args ++ cap) h
  | _ => none
def xop (P : Program) (call : XCall) (o : Oper) (tm : List AV) (h : Heap) : Option (AV × Heap) :=
  match o.op with
  | .move x | .assign x => some (rho tm x, h)
  | .pick c a b => pureX h (xpick (rho tm a) (rho tm b) (rho tm c))
  | .fieldAddr s x f => pureX h (xfield P s f (rho tm x))
  | .indexAddr t x i => pureX h (xindex P t (rho tm x) (rho tm i))
  | .load t x => pureX h (xload P t h (rho tm x))
  | .store t x v => (xstore P t h (rho tm v) (rho tm x)).map fun h' => (.tup [], h')
  | .binOp op t x y _ => pureX h (xbin P t op (rho tm x) (rho tm y))
  | .unOp .not _ x => pureX h (xnot (rho tm x))
  | .unOp .neg _ x => pureX h (xneg (rho tm x))
  | .convert src dst x => pureX h (xconv P src dst (rho tm x))
  | .nilCheck x => pureX h (xnil (rho tm x))
  | .box e x => xguard (storable (rho tm x)) (some (.ptr h.length (flat (rho tm x)).length 0 0 [], h ++ [some (.arr e (flat (rho tm x)).length [rho tm x])]))
  | .alloc e => match zAV P e with
    | some z => some (.ptr h.length (flat z).length 0 0 [], h ++ [some (.arr e (flat z).length [z])])
    | none => none
  | .build t ps => pureX h (xbuild P t (ps.toList.map fun p => (p.1, rho tm p.2)))
  | .buildSlice t len ps => xbuildSlice P t len h (ps.toList.map (·.1)) (ps.toList.map fun p => rho tm p.2)
  | .makeSlice t l c => xmake P t h (rho tm l) (rho tm c)
  | .slice t x lo hi mx => pureX h (xslice P t (lo.map (rho tm)) (hi.map (rho tm)) (mx.map (rho tm)) (rho tm x))
  | .makeFunc f first cap => some (.fn f (first.toList.map (rho tm)) (cap.toList.map (rho tm)), h)
  | .extract x i => pureX h (xext i (rho tm x))
  | .call c => match c.callee with
    | .builtin b => xbuiltin P b c.argTypes.toList h (c.args.toList.map (rho tm))
    | .value f => xcall call h (c.args.toList.map (rho tm)) (rho tm f)
    | _ => none
  | _ => none
def CallOk (P : Program) (call : XCall) : Prop := ∀ f args h v h', call f args h = some (v, h') → ∀ K : AV → Heap → Prop, K v h' → RunsK P f args h K
theorem xop_ok {P call o tm h y h'} {K : AV → Heap → Prop} (hc : CallOk P call) (e : xop P call o tm h = some (y, h')) (hk : K y h') : aop P o tm h K := by
  unfold xop at e
  unfold aop
  split at e
  · rename_i heq; rw [heq]; cases e; exact hk
  · rename_i heq; rw [heq]; cases e; exact hk
  · rename_i heq; rw [heq]; obtain ⟨h1, rfl⟩ := pureX_some e; exact xpick_ok h1 hk
  · rename_i heq; rw [heq]; obtain ⟨h1, rfl⟩ := pureX_some e; exact xfield_ok h1 hk
  · rename_i heq; rw [heq]; obtain ⟨h1, rfl⟩ := pureX_some e; exact xindex_ok h1 hk
  · rename_i heq; rw [heq]; obtain ⟨h1, rfl⟩ := pureX_some e; exact xload_ok h1 hk
  · rename_i heq; rw [heq]
    simp only [Option.map_eq_some_iff] at e
    obtain ⟨h2, h1, h3⟩ := e
    cases h3
    exact xstore_ok h1 hk
  · rename_i heq; rw [heq]; obtain ⟨h1, rfl⟩ := pureX_some e; exact xbin_ok h1 hk
  · rename_i heq; rw [heq]; obtain ⟨h1, rfl⟩ := pureX_some e; exact xnot_ok h1 hk
  · rename_i heq; rw [heq]; obtain ⟨h1, rfl⟩ := pureX_some e; exact xneg_ok h1 hk
  · rename_i heq; rw [heq]; obtain ⟨h1, rfl⟩ := pureX_some e; exact xconv_ok h1 hk
  · rename_i heq; rw [heq]; obtain ⟨h1, rfl⟩ := pureX_some e; exact xnil_ok h1 hk
  · rename_i heq; rw [heq]; obtain ⟨h1, h2⟩ := xguard_some e; cases h2; exact ⟨h1, hk⟩
  · rename_i heq; rw [heq]
    split at e
    · rename_i hz; cases e; simp only [aalloc, hz]; exact hk
    · cases e
  · rename_i heq; rw [heq]; obtain ⟨h1, rfl⟩ := pureX_some e; exact xbuild_ok h1 hk
  · rename_i heq; rw [heq]; exact xbuildSlice_ok e hk
  · rename_i heq; rw [heq]; exact xmake_ok e hk
  · rename_i heq; rw [heq]; obtain ⟨h1, rfl⟩ := pureX_some e; exact xslice_ok h1 hk
  · rename_i heq; rw [heq]; cases e; exact hk
  · rename_i heq; rw [heq]; obtain ⟨h1, rfl⟩ := pureX_some e; exact xext_ok h1 hk
  · rename_i c heq; rw [heq]
    simp only
    split at e
    · rename_i hb; rw [hb]
      simp only
      exact xbuiltin_ok e hk
    · rename_i f hb; rw [hb]
      simp only
      unfold xcall at e
      split at e
      · rename_i hf; rw [hf]; exact hc _ _ _ _ _ e _ hk
      · cases e
    · cases e
  · cases e
end Go.Am
