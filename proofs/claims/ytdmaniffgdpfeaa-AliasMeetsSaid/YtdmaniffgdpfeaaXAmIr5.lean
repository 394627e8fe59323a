/- A part of the proof that AliasThings and AliasMeets return true for every module: texts on an abstract reading of the code (AlA, AlB, AlR0, AmIr5). -/
import Derived.Test.YtdmaniffgdpfeaaXAmIr4
import Derived.Test.YtdmaniffgdpfeaaXAmLaw
set_option linter.unusedVariables false
set_option linter.unusedSimpArgs false
set_option linter.unusedSectionVars false
set_option linter.unusedVariables false
namespace Go.Am
open Go

/-! ### sets of things: the least that holds -/
structure ASets where
  R : Nat → Nat → Prop
  O : Nat → Prop
def MProc.top (p : MProc) (m : MMod) : Nat := p.objects.length + m.globals.length + 1
structure InsC (p : MProc) (s : ASets) (i : MIns) : Prop where
  frame : i.op = 7 → s.R i.d.toNat i.obj.toNat
  glob : i.op = 8 → s.R i.d.toNat (p.objects.length + i.obj.toNat)
  copy : i.op = 2 → ∀ t, s.R i.a.toNat t → s.R i.d.toNat t
  binA : i.op = 3 → (i.fn = 1 ∨ i.fn = 2) → ∀ t, s.R i.a.toNat t → s.R i.d.toNat t
  binB : i.op = 3 → (i.fn = 1 ∨ i.fn = 2) → ∀ t, s.R i.b.toNat t → s.R i.d.toNat t
  load : i.op = 5 → i.size = 4 → ∀ t, s.O t → s.R i.d.toNat t
  store : i.op = 6 → i.size = 4 → ∀ t, s.R i.b.toNat t → s.O t
  args : i.op = 9 → ∀ r ∈ i.args, ∀ t, s.R r.toNat t → s.O t
  call : i.op = 9 → i.d ≠ -1 → ∀ t, s.O t → s.R i.d.toNat t
structure Closed (m : MMod) (p : MProc) (s : ASets) : Prop where
  init : ∀ t, p.objects.length ≤ t → t < p.top m → s.O t
  par : ∀ (r : Nat) t, (r : Int) < p.params → p.objects.length ≤ t → t < p.top m → s.R r t
  ins : ∀ b ∈ p.blocks, ∀ i ∈ b.ins, InsC p s i
  ends : ∀ b ∈ p.blocks, b.kind = 3 → b.a ≠ -1 → ∀ t, s.R b.a.toNat t → s.O t
def LR (m : MMod) (p : MProc) (r t : Nat) : Prop := ∀ s, Closed m p s → s.R r t
def LO (m : MMod) (p : MProc) (t : Nat) : Prop := ∀ s, Closed m p s → s.O t
structure ASets.Sub (a b : ASets) : Prop where
  R : ∀ r t, a.R r t → b.R r t
  O : ∀ t, a.O t → b.O t
theorem Closed.isR {m p s} (h : Closed m p s) (hs : ∀ s', Closed m p s' → s.Sub s') (r t : Nat) : s.R r t ↔ LR m p r t :=
  ⟨fun hr s' h' => (hs s' h').R r t hr, fun hl => hl s h⟩
theorem Closed.isO {m p s} (h : Closed m p s) (hs : ∀ s', Closed m p s' → s.Sub s') (t : Nat) : s.O t ↔ LO m p t :=
  ⟨fun hr s' h' => (hs s' h').O t hr, fun hl => hl s h⟩

/-! ### rows of words -/
abbrev W64 := BitVec 64
def has (ws : List W64) (n : Nat) : Bool := (ws.getD (n / 64) 0).getLsbD (n % 64)
def rowPut (ws : List W64) (n : Nat) : List W64 := ws.set (n / 64) (ws.getD (n / 64) 0 ||| BitVec.twoPow 64 (n % 64))
def rowJoin (a b : List W64) : List W64 := List.zipWith (· ||| ·) a b
theorem rowPut_length {ws n} : (rowPut ws n).length = ws.length := by simp [rowPut]
theorem rowJoin_length {a b : List W64} (h : b.length = a.length) : (rowJoin a b).length = a.length := by simp [rowJoin, h]
theorem has_put {ws : List W64} {n : Nat} (hn : n / 64 < ws.length) (t : Nat) : has (rowPut ws n) t = (has ws t || decide (t = n)) := by
  unfold has rowPut
  by_cases h : t / 64 = n / 64
  · rw [h]
    simp only [List.getD, List.getElem?_set, if_pos hn, if_true, Option.getD_some, List.getElem?_eq_getElem hn]
    rw [BitVec.getLsbD_or, BitVec.getLsbD_twoPow]
    congr 1
    rw [Bool.eq_iff_iff]
    simp only [Bool.and_eq_true, decide_eq_true_eq]
    have h2 : n % 64 < 64 := Nat.mod_lt _ (by decide)
    omega
  · simp only [List.getD, List.getElem?_set, if_neg (fun e : n / 64 = t / 64 => h e.symm)]
    have : t ≠ n := fun e => h (by rw [e])
    simp [this]
theorem has_join {a b : List W64} (h : b.length = a.length) (t : Nat) : has (rowJoin a b) t = (has a t || has b t) := by
  unfold has rowJoin
  simp only [List.getD, List.getElem?_zipWith]
  by_cases hl : t / 64 < a.length
  · rw [List.getElem?_eq_getElem hl, List.getElem?_eq_getElem (by omega)]
    simp
  · rw [List.getElem?_eq_none (by omega), List.getElem?_eq_none (by omega)]
    simp
/-- how many things words have -/
def bitsOf (w : W64) : Nat := (List.range 64).countP fun i => w.getLsbD i
def cnt (ws : List W64) : Nat := (ws.map bitsOf).sum
theorem countP_le_of {p q : Nat → Bool} (l : List Nat) (h : ∀ x ∈ l, p x = true → q x = true) : l.countP p ≤ l.countP q := by
  induction l with
  | nil => simp
  | cons a l ih =>
    simp only [List.countP_cons]
    have := ih fun x hx => h x (by simp [hx])
    have ha := h a (by simp)
    cases hp : p a <;> cases hq : q a <;> simp_all <;> omega
theorem countP_lt_of {p q : Nat → Bool} (l : List Nat) (h : ∀ x ∈ l, p x = true → q x = true) (hx : ∃ x ∈ l, q x = true ∧ p x = false) : l.countP p < l.countP q := by
  induction l with
  | nil => obtain ⟨x, hx, -⟩ := hx; simp at hx
  | cons a l ih =>
    simp only [List.countP_cons]
    have hle := countP_le_of l fun x hx => h x (by simp [hx])
    have ha := h a (by simp)
    obtain ⟨x, hx, hq, hp⟩ := hx
    rcases List.mem_cons.1 hx with rfl | hx
    · simp [hq, hp]; omega
    · have := ih (fun x hx => h x (by simp [hx])) ⟨x, hx, hq, hp⟩
      cases hpa : p a <;> cases hqa : q a <;> simp_all <;> omega
theorem bitsOf_or_le (a b : W64) : bitsOf a ≤ bitsOf (a ||| b) := countP_le_of _ fun x _ hx => by simp [hx]
theorem bitsOf_or_lt {a b : W64} (h : a ||| b ≠ a) : bitsOf a < bitsOf (a ||| b) := by
  refine countP_lt_of _ (fun x _ hx => by simp [hx]) ?_
  have hx : ∃ i, i < 64 ∧ (a ||| b).getLsbD i ≠ a.getLsbD i := by
    refine Classical.byContradiction fun hc => h ?_
    apply BitVec.eq_of_getLsbD_eq
    intro i hi
    exact Classical.byContradiction fun hne => hc ⟨i, hi, hne⟩
  obtain ⟨i, hi, hne⟩ := hx
  refine ⟨i, List.mem_range.2 hi, ?_⟩
  cases ha : a.getLsbD i <;> simp_all
theorem cnt_join_le : ∀ {a b : List W64}, b.length = a.length → cnt a ≤ cnt (rowJoin a b)
  | [], [], _ => Nat.le_refl _
  | a :: l, b :: m, h => by
    have := cnt_join_le (a := l) (b := m) (by simpa using h)
    have := bitsOf_or_le a b
    simp only [cnt, rowJoin, List.zipWith_cons_cons, List.map_cons, List.sum_cons] at *
    omega
  | [], _ :: _, h => by simp at h
  | _ :: _, [], h => by simp at h
theorem cnt_join_lt : ∀ {a b : List W64}, b.length = a.length → rowJoin a b ≠ a → cnt a < cnt (rowJoin a b)
  | [], [], _, hne => absurd rfl hne
  | a :: l, b :: m, h, hne => by
    have h' : m.length = l.length := by simpa using h
    have h1 := cnt_join_le (a := l) (b := m) h'
    have h2 := bitsOf_or_le a b
    by_cases e : a ||| b = a
    · have h3 : rowJoin l m ≠ l := fun e2 => hne (by simp only [rowJoin, List.zipWith_cons_cons] at *; rw [e, e2])
      have := cnt_join_lt h' h3
      simp only [cnt, rowJoin, List.zipWith_cons_cons, List.map_cons, List.sum_cons] at *
      omega
    · have := bitsOf_or_lt e
      simp only [cnt, rowJoin, List.zipWith_cons_cons, List.map_cons, List.sum_cons] at *
      omega
  | [], _ :: _, h, _ => by simp at h
  | _ :: _, [], h, _ => by simp at h
theorem bitsOf_le (w : W64) : bitsOf w ≤ 64 := by
  have := List.countP_le_length (p := fun i => w.getLsbD i) (l := List.range 64)
  simpa [bitsOf] using this
theorem cnt_le (ws : List W64) : cnt ws ≤ 64 * ws.length := by
  induction ws with
  | nil => simp [cnt]
  | cons w l ih =>
    have := bitsOf_le w
    simp only [cnt, List.map_cons, List.sum_cons, List.length_cons] at *
    omega
theorem sum_set {l : List Nat} {n : Nat} (hn : n < l.length) (x : Nat) : (l.set n x).sum + l[n] = l.sum + x := by
  induction l generalizing n with
  | nil => simp at hn
  | cons a l ih =>
    cases n with
    | zero => simp; omega
    | succ n =>
      have := ih (n := n) (by simpa using hn)
      simp only [List.set_cons_succ, List.sum_cons, List.getElem_cons_succ]
      omega
/-- putting one thing is joining one word -/
theorem cnt_put {ws : List W64} {n : Nat} (hn : n / 64 < ws.length) : cnt ws ≤ cnt (rowPut ws n) ∧ (rowPut ws n ≠ ws → cnt ws < cnt (rowPut ws n)) := by
  have hl : n / 64 < (ws.map bitsOf).length := by simpa using hn
  have hg : ws.getD (n / 64) 0 = ws[n / 64] := by simp [List.getD, hn]
  have hs := sum_set hl (bitsOf (ws[n / 64] ||| BitVec.twoPow 64 (n % 64)))
  have hm : (ws.map bitsOf)[n / 64] = bitsOf ws[n / 64] := by simp
  have hp : cnt (rowPut ws n) = ((ws.map bitsOf).set (n / 64) (bitsOf (ws[n / 64] ||| BitVec.twoPow 64 (n % 64)))).sum := by
    rw [cnt, rowPut, List.map_set, hg]
  have h1 := bitsOf_or_le ws[n / 64] (BitVec.twoPow 64 (n % 64))
  rw [hm] at hs
  unfold cnt at hp ⊢
  refine ⟨by omega, fun hne => ?_⟩
  have : ws[n / 64] ||| BitVec.twoPow 64 (n % 64) ≠ ws[n / 64] := fun e => hne (by rw [rowPut, hg, e]; simp)
  have := bitsOf_or_lt this
  omega
end Go.Am

set_option linter.unusedVariables false
namespace Go.Am
open Go

/-! ### what registers may point into, as rows -/
structure VSt where
  regs : List (List W64)
  out : List W64
structure VSt.WF (n W : Nat) (st : VSt) : Prop where
  regs : st.regs.length = n
  row : ∀ r ∈ st.regs, r.length = W
  out : st.out.length = W
def VSt.sets (st : VSt) : ASets := ⟨fun r t => has (st.regs.getD r []) t = true, fun t => has st.out t = true⟩
def VSt.tot (st : VSt) : Nat := (st.regs.map cnt).sum + cnt st.out
structure Good (m : MMod) (p : MProc) (n W : Nat) (st st' : VSt) (g : Bool) : Prop where
  wf : st'.WF n W
  le : st.tot ≤ st'.tot
  lt : g = true → st.tot < st'.tot
  eq : g = false → st' = st
  mono : st.sets.Sub st'.sets
  sub : ∀ s, Closed m p s → st.sets.Sub s → st'.sets.Sub s
variable {m : MMod} {p : MProc} {n W : Nat} {st st' st1 st2 : VSt}
theorem ASets.Sub.refl {s : ASets} : s.Sub s := ⟨fun _ _ h => h, fun _ h => h⟩
theorem ASets.Sub.trans {a b c : ASets} (h : a.Sub b) (k : b.Sub c) : a.Sub c := ⟨fun r t x => k.R r t (h.R r t x), fun t x => k.O t (h.O t x)⟩
theorem Good.refl (hw : st.WF n W) : Good m p n W st st false := ⟨hw, Nat.le_refl _, by simp, by simp, .refl, fun _ _ h => h⟩
theorem Good.trans {g1 g2 g : Bool} (h1 : Good m p n W st st1 g1) (h2 : Good m p n W st1 st2 g2) (hg : g = (g1 || g2)) : Good m p n W st st2 g := by
  subst hg
  refine ⟨h2.wf, Nat.le_trans h1.le h2.le, fun hg => ?_, fun hg => ?_, h1.mono.trans h2.mono, fun s hc hs => h2.sub s hc (h1.sub s hc hs)⟩
  · cases g1 with
    | true => exact Nat.lt_of_lt_of_le (h1.lt rfl) h2.le
    | false => exact Nat.lt_of_le_of_lt h1.le (h2.lt (by simpa using hg))
  · simp only [Bool.or_eq_false_iff] at hg
    rw [h2.eq hg.2, h1.eq hg.1]
theorem WF.len (hw : st.WF n W) {r : Nat} (hr : r < n) : (st.regs.getD r []).length = W := by
  have hr' : r < st.regs.length := by rw [hw.regs]; exact hr
  have : st.regs.getD r [] = st.regs[r] := by simp [List.getD, hr']
  rw [this]
  exact hw.row _ (List.getElem_mem hr')
theorem WF.set (hw : st.WF n W) {d : Nat} {row : List W64} (hl : row.length = W) : VSt.WF n W { st with regs := st.regs.set d row } := by
  refine ⟨by simpa using hw.regs, fun r hr => ?_, hw.out⟩
  rcases List.mem_or_eq_of_mem_set hr with h | rfl
  · exact hw.row r h
  · exact hl
theorem getD_set_regs {l : List (List W64)} {d : Nat} {row : List W64} (hd : d < l.length) (r : Nat) : (l.set d row).getD r [] = if r = d then row else l.getD r [] := by
  by_cases e : r = d
  · subst e; simp [List.getD, hd]
  · rw [if_neg e]; simp only [List.getD, List.getElem?_set, if_neg (fun h : d = r => e h.symm)]
theorem set_same_row {l : List (List W64)} {d : Nat} : l.set d (l.getD d []) = l := by
  by_cases hd : d < l.length
  · simp [List.getD, hd]
  · exact List.set_eq_of_length_le (by omega)
/-- a register's row grows -/
theorem Good.reg (hw : st.WF n W) {d : Nat} (hd : d < n) {row : List W64} (hl : row.length = W) (hle : cnt (st.regs.getD d []) ≤ cnt row) (hlt : row ≠ st.regs.getD d [] → cnt (st.regs.getD d []) < cnt row)
    (hmono : ∀ t, has (st.regs.getD d []) t = true → has row t = true)
    (hsub : ∀ s, Closed m p s → st.sets.Sub s → ∀ t, has row t = true → s.R d t) : Good m p n W st { st with regs := st.regs.set d row } (decide (row ≠ st.regs.getD d [])) := by
  have hd' : d < st.regs.length := by rw [hw.regs]; exact hd
  have hdm : d < (st.regs.map cnt).length := by simpa using hd'
  have htot : VSt.tot { st with regs := st.regs.set d row } + cnt (st.regs.getD d []) = st.tot + cnt row := by
    have := sum_set hdm (cnt row)
    have hg : (st.regs.map cnt)[d] = cnt (st.regs.getD d []) := by simp [List.getD, hd']
    rw [hg] at this
    simp only [VSt.tot, List.map_set]
    omega
  refine ⟨WF.set hw hl, by omega, fun hg => ?_, fun hg => ?_, ⟨fun r t h => ?_, fun t h => h⟩, fun s hc hs => ⟨fun r t h => ?_, fun t h => hs.O t h⟩⟩
  · have := hlt (by simpa using hg); omega
  · simp only [decide_eq_false_iff_not, Decidable.not_not] at hg
    rw [hg, set_same_row]
  · simp only [VSt.sets] at h ⊢
    rw [getD_set_regs hd']
    split
    · rename_i e; subst e; exact hmono t h
    · exact h
  · simp only [VSt.sets] at h
    rw [getD_set_regs hd'] at h
    split at h
    · rename_i e; subst e; exact hsub s hc hs t h
    · exact hs.R r t h
theorem Good.put (hw : st.WF n W) {d k : Nat} (hd : d < n) (hk : k / 64 < W) (hr : ∀ s, Closed m p s → s.R d k) :
    Good m p n W st { st with regs := st.regs.set d (rowPut (st.regs.getD d []) k) } (decide (rowPut (st.regs.getD d []) k ≠ st.regs.getD d [])) := by
  have hl := WF.len hw hd
  have hc := cnt_put (ws := st.regs.getD d []) (n := k) (by omega)
  refine Good.reg hw hd (by rw [rowPut_length, hl]) hc.1 hc.2 (fun t h => ?_) (fun s h hs t ht => ?_)
  · rw [has_put (by omega), h]; rfl
  · rw [has_put (by omega)] at ht
    simp only [Bool.or_eq_true, decide_eq_true_eq] at ht
    rcases ht with ht | rfl
    · exact hs.R d t ht
    · exact hr s h
theorem Good.joinR (hw : st.WF n W) {d a : Nat} (hd : d < n) (ha : a < n) (hr : ∀ s, Closed m p s → ∀ t, s.R a t → s.R d t) :
    Good m p n W st { st with regs := st.regs.set d (rowJoin (st.regs.getD d []) (st.regs.getD a [])) } (decide (rowJoin (st.regs.getD d []) (st.regs.getD a []) ≠ st.regs.getD d [])) := by
  have hl := WF.len hw hd
  have hla := WF.len hw ha
  have hll : (st.regs.getD a []).length = (st.regs.getD d []).length := by omega
  refine Good.reg hw hd (by rw [rowJoin_length hll, hl]) (cnt_join_le hll) (cnt_join_lt hll) (fun t h => ?_) (fun s h hs t ht => ?_)
  · rw [has_join hll, h]; rfl
  · rw [has_join hll] at ht
    simp only [Bool.or_eq_true] at ht
    rcases ht with ht | ht
    · exact hs.R d t ht
    · exact hr s h t (hs.R a t ht)
theorem Good.joinO (hw : st.WF n W) {d : Nat} (hd : d < n) (hr : ∀ s, Closed m p s → ∀ t, s.O t → s.R d t) :
    Good m p n W st { st with regs := st.regs.set d (rowJoin (st.regs.getD d []) st.out) } (decide (rowJoin (st.regs.getD d []) st.out ≠ st.regs.getD d [])) := by
  have hl := WF.len hw hd
  have hll : st.out.length = (st.regs.getD d []).length := by rw [hl, hw.out]
  refine Good.reg hw hd (by rw [rowJoin_length hll, hl]) (cnt_join_le hll) (cnt_join_lt hll) (fun t h => ?_) (fun s h hs t ht => ?_)
  · rw [has_join hll, h]; rfl
  · rw [has_join hll] at ht
    simp only [Bool.or_eq_true] at ht
    rcases ht with ht | ht
    · exact hs.R d t ht
    · exact hr s h t (hs.O t ht)
theorem Good.let_ (hw : st.WF n W) {r : Nat} (hr : r < n) (hs : ∀ s, Closed m p s → ∀ t, s.R r t → s.O t) :
    Good m p n W st { st with out := rowJoin st.out (st.regs.getD r []) } (decide (rowJoin st.out (st.regs.getD r []) ≠ st.out)) := by
  have hl := WF.len hw hr
  have hll : (st.regs.getD r []).length = st.out.length := by rw [hl, hw.out]
  refine ⟨⟨hw.regs, hw.row, by rw [← hw.out]; exact rowJoin_length hll⟩, ?_, fun hg => ?_, fun hg => ?_, ⟨fun _ _ h => h, fun t h => ?_⟩, fun s hc hsub => ⟨fun r t h => hsub.R r t h, fun t h => ?_⟩⟩
  · simp only [VSt.tot]; have := cnt_join_le hll; omega
  · simp only [VSt.tot]; have := cnt_join_lt hll (by simpa using hg); omega
  · simp only [decide_eq_false_iff_not, Decidable.not_not] at hg
    rw [hg]
  · simp only [VSt.sets] at h ⊢
    rw [has_join hll, h]; rfl
  · simp only [VSt.sets] at h
    rw [has_join hll] at h
    simp only [Bool.or_eq_true] at h
    rcases h with h | h
    · exact hsub.O t h
    · exact hs s hc t (hsub.R r t h)
/-! what holds where nothing grew -/
theorem put_fix (hw : st.WF n W) {d k : Nat} (hd : d < n) (hk : k / 64 < W) (h : rowPut (st.regs.getD d []) k = st.regs.getD d []) : st.sets.R d k := by
  have hl := WF.len hw hd
  simp only [VSt.sets]
  rw [← h, has_put (by omega)]
  simp
theorem joinR_fix (hw : st.WF n W) {d a : Nat} (hd : d < n) (ha : a < n) (h : rowJoin (st.regs.getD d []) (st.regs.getD a []) = st.regs.getD d []) (t : Nat) (ht : st.sets.R a t) : st.sets.R d t := by
  have hl := WF.len hw hd
  have hla := WF.len hw ha
  simp only [VSt.sets] at *
  rw [← h, has_join (by omega), ht]
  simp
theorem joinO_fix (hw : st.WF n W) {d : Nat} (hd : d < n) (h : rowJoin (st.regs.getD d []) st.out = st.regs.getD d []) (t : Nat) (ht : st.sets.O t) : st.sets.R d t := by
  have hl := WF.len hw hd
  have := hw.out
  simp only [VSt.sets] at *
  rw [← h, has_join (by omega), ht]
  simp
theorem let_fix (hw : st.WF n W) {r : Nat} (hr : r < n) (h : rowJoin st.out (st.regs.getD r []) = st.out) (t : Nat) (ht : st.sets.R r t) : st.sets.O t := by
  have hl := WF.len hw hr
  have := hw.out
  simp only [VSt.sets] at *
  rw [← h, has_join (by omega), ht]
  simp
theorem tot_le (hw : st.WF n W) : st.tot ≤ 64 * W * (n + 1) := by
  have h1 := cnt_le st.out
  rw [hw.out] at h1
  have h2 : ∀ l : List (List W64), (∀ r ∈ l, r.length = W) → (l.map cnt).sum ≤ 64 * W * l.length := by
    intro l
    induction l with
    | nil => simp
    | cons a l ih =>
      intro h
      have := ih fun r hr => h r (by simp [hr])
      have h3 := cnt_le a
      rw [h a (by simp)] at h3
      simp only [List.map_cons, List.sum_cons, List.length_cons, Nat.mul_succ]
      omega
  have := h2 st.regs hw.row
  rw [hw.regs] at this
  rw [Nat.mul_succ]
  simp only [VSt.tot]
  omega
end Go.Am

set_option maxRecDepth 100000
set_option maxHeartbeats 1000000
set_option linter.unusedSimpArgs false
set_option linter.unusedVariables false
namespace Go.Am
open Go Go.Proofs
/-! ### the document's own sets: lists of truths -/
def orB (a b : List Bool) : List Bool := List.zipWith (· || ·) a b
def putB (a : List Bool) (n : Int) : List Bool := a.mapIdx fun i x => x || decide ((i : Int) = n)
theorem orB_length {a b : List Bool} (h : b.length = a.length) : (orB a b).length = a.length := by simp [orB, h]
theorem putB_length {a n} : (putB a n).length = a.length := by simp [putB]
theorem getD_orB {a b : List Bool} (h : b.length = a.length) (t : Nat) : (orB a b).getD t false = (a.getD t false || b.getD t false) := by
  unfold orB
  simp only [List.getD, List.getElem?_zipWith]
  by_cases hl : t < a.length
  · rw [List.getElem?_eq_getElem hl, List.getElem?_eq_getElem (by omega)]; rfl
  · rw [List.getElem?_eq_none (by omega), List.getElem?_eq_none (by omega)]; rfl
theorem getD_putB {a : List Bool} {n : Nat} (hn : n < a.length) (t : Nat) : (putB a n).getD t false = (a.getD t false || decide (t = n)) := by
  unfold putB
  simp only [List.getD, List.getElem?_mapIdx]
  by_cases hl : t < a.length
  · rw [List.getElem?_eq_getElem hl]
    simp only [Option.map_some, Option.getD_some]
    congr 1
    rw [Bool.eq_iff_iff]; simp; omega
  · rw [List.getElem?_eq_none (by omega)]
    have : t ≠ n := by omega
    simp [this]
def cntB (l : List Bool) : Nat := l.countP id
theorem cntB_cons {x l} : cntB (x :: l) = cntB l + (if x then 1 else 0) := by simp [cntB, List.countP_cons]
theorem cntB_or : ∀ {a b : List Bool}, b.length = a.length → cntB a ≤ cntB (orB a b) ∧ (cntB (orB a b) = cntB a → orB a b = a)
  | [], [], _ => ⟨Nat.le_refl _, fun _ => rfl⟩
  | x :: a, y :: b, h => by
    obtain ⟨h1, h2⟩ := cntB_or (a := a) (b := b) (by simpa using h)
    have e : orB (x :: a) (y :: b) = (x || y) :: orB a b := rfl
    rw [e, cntB_cons, cntB_cons]
    refine ⟨?_, fun h3 => ?_⟩
    · cases x <;> cases y <;> simp <;> omega
    · cases x <;> cases y <;> simp at h3 ⊢ <;> first | (exact h2 (by omega)) | omega
  | [], _ :: _, h => by simp at h
  | _ :: _, [], h => by simp at h
theorem cntB_le : ∀ (l : List Bool), cntB l ≤ l.length
  | [] => Nat.le_refl _
  | x :: l => by have := cntB_le l; rw [cntB_cons, List.length_cons]; split <;> omega
theorem putB_or {a : List Bool} {n : Int} : putB a n = orB a (a.mapIdx fun i _ => decide ((i : Int) = n)) := by
  apply List.ext_getElem?
  intro i
  simp only [putB, orB, List.getElem?_mapIdx, List.getElem?_zipWith]
  cases a[i]? <;> rfl
structure BSt where
  regs : List (List Bool)
  out : List Bool
structure BSt.WF (n T : Nat) (st : BSt) : Prop where
  regs : st.regs.length = n
  row : ∀ r ∈ st.regs, r.length = T
  out : st.out.length = T
def BSt.sets (st : BSt) : ASets := ⟨fun r t => (st.regs.getD r []).getD t false = true, fun t => st.out.getD t false = true⟩
def BSt.tot (st : BSt) : Nat := (st.regs.map cntB).sum + cntB st.out
structure GoodB (m : MMod) (p : MProc) (n T : Nat) (st st' : BSt) : Prop where
  wf : st'.WF n T
  le : st.tot ≤ st'.tot
  eq : st'.tot = st.tot → st' = st
  mono : st.sets.Sub st'.sets
  sub : ∀ s, Closed m p s → st.sets.Sub s → st'.sets.Sub s
variable {m : MMod} {p : MProc} {n T : Nat} {st st' st1 st2 : BSt}
theorem GoodB.refl (hw : st.WF n T) : GoodB m p n T st st := ⟨hw, Nat.le_refl _, fun _ => rfl, .refl, fun _ _ h => h⟩
theorem GoodB.trans (h1 : GoodB m p n T st st1) (h2 : GoodB m p n T st1 st2) : GoodB m p n T st st2 := by
  refine ⟨h2.wf, Nat.le_trans h1.le h2.le, fun e => ?_, h1.mono.trans h2.mono, fun s hc hs => h2.sub s hc (h1.sub s hc hs)⟩
  have e1 := h1.eq (by have := h1.le; have := h2.le; omega)
  subst e1
  exact h2.eq e
theorem WFB.len (hw : st.WF n T) {r : Nat} (hr : r < n) : (st.regs.getD r []).length = T := by
  have hr' : r < st.regs.length := by rw [hw.regs]; exact hr
  have : st.regs.getD r [] = st.regs[r] := by simp [List.getD, hr']
  rw [this]
  exact hw.row _ (List.getElem_mem hr')
theorem WFB.set (hw : st.WF n T) {d : Nat} {row : List Bool} (hl : row.length = T) : BSt.WF n T { st with regs := st.regs.set d row } := by
  refine ⟨by simpa using hw.regs, fun r hr => ?_, hw.out⟩
  rcases List.mem_or_eq_of_mem_set hr with h | rfl
  · exact hw.row r h
  · exact hl
theorem getD_set_B {l : List (List Bool)} {d : Nat} {row : List Bool} (hd : d < l.length) (r : Nat) : (l.set d row).getD r [] = if r = d then row else l.getD r [] := by
  by_cases e : r = d
  · subst e; simp [List.getD, hd]
  · rw [if_neg e]; simp only [List.getD, List.getElem?_set, if_neg (fun h : d = r => e h.symm)]
theorem set_same_B {l : List (List Bool)} {d : Nat} : l.set d (l.getD d []) = l := by
  by_cases hd : d < l.length
  · simp [List.getD, hd]
  · exact List.set_eq_of_length_le (by omega)
/-- a register's set grows -/
theorem GoodB.reg (hw : st.WF n T) {d : Nat} (hd : d < n) {b : List Bool} (hb : b.length = T)
    (hsub : ∀ s, Closed m p s → st.sets.Sub s → ∀ t, b.getD t false = true → s.R d t) : GoodB m p n T st { st with regs := st.regs.set d (orB (st.regs.getD d []) b) } := by
  have hd' : d < st.regs.length := by rw [hw.regs]; exact hd
  have hdm : d < (st.regs.map cntB).length := by simpa using hd'
  have hl := WFB.len hw hd
  have hll : b.length = (st.regs.getD d []).length := by omega
  obtain ⟨c1, c2⟩ := cntB_or hll
  have htot : BSt.tot { st with regs := st.regs.set d (orB (st.regs.getD d []) b) } + cntB (st.regs.getD d []) = st.tot + cntB (orB (st.regs.getD d []) b) := by
    have := sum_set hdm (cntB (orB (st.regs.getD d []) b))
    have hg : (st.regs.map cntB)[d] = cntB (st.regs.getD d []) := by simp [List.getD, hd']
    rw [hg] at this
    simp only [BSt.tot, List.map_set]
    omega
  refine ⟨WFB.set hw (by rw [orB_length hll, hl]), by omega, fun e => ?_, ⟨fun r t h => ?_, fun t h => h⟩, fun s hc hs => ⟨fun r t h => ?_, fun t h => hs.O t h⟩⟩
  · rw [c2 (by omega), set_same_B]
  · simp only [BSt.sets] at h ⊢
    rw [getD_set_B hd']
    split
    · rename_i e; subst e; rw [getD_orB hll, h]; rfl
    · exact h
  · simp only [BSt.sets] at h
    rw [getD_set_B hd'] at h
    split at h
    · rename_i e; subst e
      rw [getD_orB hll] at h
      simp only [Bool.or_eq_true] at h
      rcases h with h | h
      · exact hs.R _ t h
      · exact hsub s hc hs t h
    · exact hs.R r t h
theorem GoodB.put (hw : st.WF n T) {d k : Nat} (hd : d < n) (hk : k < T) (hr : ∀ s, Closed m p s → s.R d k) : GoodB m p n T st { st with regs := st.regs.set d (putB (st.regs.getD d []) k) } := by
  have hl := WFB.len hw hd
  rw [putB_or]
  refine GoodB.reg hw hd (by rw [List.length_mapIdx]; exact hl) fun s hc hs t ht => ?_
  simp only [List.getD, List.getElem?_mapIdx] at ht
  cases e : (st.regs.getD d [])[t]? with
  | none => simp only [List.getD] at e; rw [e] at ht; simp at ht
  | some x =>
    simp only [List.getD] at e; rw [e] at ht
    simp at ht
    have : t = k := by omega
    subst this
    exact hr s hc
theorem GoodB.joinR (hw : st.WF n T) {d a : Nat} (hd : d < n) (ha : a < n) (hr : ∀ s, Closed m p s → ∀ t, s.R a t → s.R d t) :
    GoodB m p n T st { st with regs := st.regs.set d (orB (st.regs.getD d []) (st.regs.getD a [])) } :=
  GoodB.reg hw hd (WFB.len hw ha) fun s hc hs t ht => hr s hc t (hs.R a t ht)
theorem GoodB.joinO (hw : st.WF n T) {d : Nat} (hd : d < n) (hr : ∀ s, Closed m p s → ∀ t, s.O t → s.R d t) :
    GoodB m p n T st { st with regs := st.regs.set d (orB (st.regs.getD d []) st.out) } :=
  GoodB.reg hw hd hw.out fun s hc hs t ht => hr s hc t (hs.O t ht)
theorem GoodB.let_ (hw : st.WF n T) {r : Nat} (hr : r < n) (hs : ∀ s, Closed m p s → ∀ t, s.R r t → s.O t) :
    GoodB m p n T st { st with out := orB st.out (st.regs.getD r []) } := by
  have hl := WFB.len hw hr
  have hll : (st.regs.getD r []).length = st.out.length := by rw [hl, hw.out]
  obtain ⟨c1, c2⟩ := cntB_or hll
  refine ⟨⟨hw.regs, hw.row, by rw [← hw.out]; exact orB_length hll⟩, ?_, fun e => ?_, ⟨fun _ _ h => h, fun t h => ?_⟩, fun s hc hsub => ⟨fun r t h => hsub.R r t h, fun t h => ?_⟩⟩
  · simp only [BSt.tot]; omega
  · simp only [BSt.tot] at e
    rw [c2 (by omega)]
  · simp only [BSt.sets] at h ⊢
    rw [getD_orB hll, h]; rfl
  · simp only [BSt.sets] at h
    rw [getD_orB hll] at h
    simp only [Bool.or_eq_true] at h
    rcases h with h | h
    · exact hsub.O t h
    · exact hs s hc t (hsub.R r t h)
theorem eq_regs {st : BSt} {l : List (List Bool)} (h : ({ st with regs := l } : BSt) = st) : l = st.regs := congrArg BSt.regs h
theorem eq_out {st : BSt} {l : List Bool} (h : ({ st with out := l } : BSt) = st) : l = st.out := congrArg BSt.out h
theorem row_fix (hw : st.WF n T) {d : Nat} (hd : d < n) {row : List Bool} (h : st.regs.set d row = st.regs) : row = st.regs.getD d [] := by
  have hd' : d < st.regs.length := by rw [hw.regs]; exact hd
  have := congrArg (fun l => l.getD d []) h
  simp only [getD_set_B hd', if_true] at this
  exact this
theorem putB_fix (hw : st.WF n T) {d k : Nat} (hd : d < n) (hk : k < T) (h : ({ st with regs := st.regs.set d (putB (st.regs.getD d []) k) } : BSt) = st) : st.sets.R d k := by
  have e := row_fix hw hd (eq_regs h)
  have hl := WFB.len hw hd
  simp only [BSt.sets]
  rw [← e, getD_putB (by omega)]
  simp
theorem orR_fix (hw : st.WF n T) {d : Nat} (hd : d < n) {b : List Bool} (hb : b.length = T) (h : ({ st with regs := st.regs.set d (orB (st.regs.getD d []) b) } : BSt) = st) (t : Nat) (ht : b.getD t false = true) : st.sets.R d t := by
  have e := row_fix hw hd (eq_regs h)
  have hl := WFB.len hw hd
  simp only [BSt.sets]
  rw [← e, getD_orB (by omega), ht]
  simp
theorem letB_fix (hw : st.WF n T) {r : Nat} (hr : r < n) (h : ({ st with out := orB st.out (st.regs.getD r []) } : BSt) = st) (t : Nat) (ht : st.sets.R r t) : st.sets.O t := by
  have e := eq_out h
  have hl := WFB.len hw hr
  have := hw.out
  simp only [BSt.sets] at *
  rw [← e, getD_orB (by omega), ht]
  simp
theorem totB_le (hw : st.WF n T) : st.tot ≤ T * (n + 1) := by
  have h1 := cntB_le st.out
  rw [hw.out] at h1
  have h2 : ∀ l : List (List Bool), (∀ r ∈ l, r.length = T) → (l.map cntB).sum ≤ T * l.length := by
    intro l
    induction l with
    | nil => simp
    | cons a l ih =>
      intro h
      have := ih fun r hr => h r (by simp [hr])
      have h3 := cntB_le a
      rw [h a (by simp)] at h3
      simp only [List.map_cons, List.sum_cons, List.length_cons, Nat.mul_succ]
      omega
  have := h2 st.regs hw.row
  rw [hw.regs] at this
  rw [Nat.mul_succ]
  simp only [BSt.tot]
  omega
end Go.Am

set_option maxRecDepth 100000
set_option maxHeartbeats 1000000
set_option linter.unusedSimpArgs false
set_option linter.unusedVariables false
namespace Go.Am
open Go Go.Proofs
def offOk (n : Int) : Bool := decide (n ≥ -32768) && decide (n ≤ 32768)
def dstB (op : Int) : Bool := !decide (op = 6) && !decide (op = 10) && !decide (op = 12)
def Lk.insOk (l : Lk) (i : MIns) : Bool :=
  if i.op < 1 then false else if i.op > 12 then false else if i.bare = false then false
  else if i.op = 9 then l.callOk i && regOk l.p.regs i.a false && regOk l.p.regs i.b false
  else if regOk l.p.regs i.d (dstB i.op) = false then false else if regOk l.p.regs i.a (rdA i.op) = false then false else if regOk l.p.regs i.b (rdB i.op) = false then false
  else if i.op = 3 then decide (i.fn ≥ 1) && decide (i.fn ≤ 16)
  else if i.op = 4 then decide (i.fn ≥ 17) && decide (i.fn ≤ 19)
  else if i.op = 5 ∨ i.op = 6 then (decide (i.size = 1) || decide (i.size = 4)) && offOk i.off
  else if i.op = 7 then decide (i.obj ≥ 0) && decide (i.obj < l.p.objects.length) && offOk i.off
  else if i.op = 8 then decide (i.obj ≥ 0) && decide (i.obj < l.m.globals.length) && offOk i.off
  else true
theorem dT {p : Prop} [Decidable p] (h : p) : decide p = true := decide_eq_true h
theorem dF {p : Prop} [Decidable p] (h : ¬ p) : decide p = false := decide_eq_false h
theorem run204 (l : Lk) (i : MIns) (hl : i.Lens) (h : Heap) (K) (hK : K (B (l.insOk i)) h) : RunsK Try.prog 204 [l.enc, i.enc] h K := by
  have fin : ∀ g b, b = l.insOk i → WRet h K (.val (.bool b)) (h ++ g) := fun g b e => WRet.bool .mk hK e
  refine RunsK.intro Try.func204 rfl (by decide) (by simp only [Try.f204, go_sem]; decide) ?_
  simp only [Try.f204]
  have hop : i.op = 6 ∨ i.op = 10 ∨ i.op = 12 ∨ (¬ i.op = 6 ∧ ¬ i.op = 10 ∧ ¬ i.op = 12) := by omega
  clear hK
  rcases hop with e | e | e | ⟨e1, e2, e3⟩
  · simp only [go_sem, e, Nat.reduceAdd, Nat.reduceEqDiff, reduceIte, Int.reduceEq, decide_true, decide_false, Int.reduceLT, Int.reduceGT]
    refine run207 _ _ _ ?_
    simp only [go_sem, e, Nat.reduceAdd, Nat.reduceEqDiff, reduceIte, Int.reduceEq, decide_true, decide_false, Int.reduceLT, Int.reduceGT]
    repeat' (first
      | (refine AIf_intro (fun hb => ?_) (fun hb => ?_) <;> simp only [hb, go_sem, e, Nat.reduceAdd, Nat.reduceEqDiff, reduceIte, Int.reduceEq, decide_true, decide_false, Int.reduceLT, Int.reduceGT])
      | (refine run227 i _ _ ?_; simp only [go_sem, e, Nat.reduceAdd, Nat.reduceEqDiff, reduceIte, Int.reduceEq, decide_true, decide_false, Int.reduceLT, Int.reduceGT])
      | (refine run228 l i hl _ _ ?_; simp only [go_sem, e, Nat.reduceAdd, Nat.reduceEqDiff, reduceIte, Int.reduceEq, decide_true, decide_false, Int.reduceLT, Int.reduceGT])
      | (refine run229 l _ _ _ _ ?_; simp only [go_sem, e, Nat.reduceAdd, Nat.reduceEqDiff, reduceIte, Int.reduceEq, decide_true, decide_false, Int.reduceLT, Int.reduceGT])
      | (refine run230 _ _ _ ?_; simp only [go_sem, e, Nat.reduceAdd, Nat.reduceEqDiff, reduceIte, Int.reduceEq, decide_true, decide_false, Int.reduceLT, Int.reduceGT]))
    all_goals refine fin _ _ ?_
    all_goals (try simp only [decide_eq_true_eq, decide_eq_false_iff_not] at *)
    all_goals first
      | (simp [Lk.insOk, offOk, dstB, rdA, rdB, *]; done)
      | (simp_all [Lk.insOk, offOk, dstB, rdA, rdB]; done)
  · simp only [go_sem, e, Nat.reduceAdd, Nat.reduceEqDiff, reduceIte, Int.reduceEq, decide_true, decide_false, Int.reduceLT, Int.reduceGT]
    refine run207 _ _ _ ?_
    simp only [go_sem, e, Nat.reduceAdd, Nat.reduceEqDiff, reduceIte, Int.reduceEq, decide_true, decide_false, Int.reduceLT, Int.reduceGT]
    repeat' (first
      | (refine AIf_intro (fun hb => ?_) (fun hb => ?_) <;> simp only [hb, go_sem, e, Nat.reduceAdd, Nat.reduceEqDiff, reduceIte, Int.reduceEq, decide_true, decide_false, Int.reduceLT, Int.reduceGT])
      | (refine run227 i _ _ ?_; simp only [go_sem, e, Nat.reduceAdd, Nat.reduceEqDiff, reduceIte, Int.reduceEq, decide_true, decide_false, Int.reduceLT, Int.reduceGT])
      | (refine run228 l i hl _ _ ?_; simp only [go_sem, e, Nat.reduceAdd, Nat.reduceEqDiff, reduceIte, Int.reduceEq, decide_true, decide_false, Int.reduceLT, Int.reduceGT])
      | (refine run229 l _ _ _ _ ?_; simp only [go_sem, e, Nat.reduceAdd, Nat.reduceEqDiff, reduceIte, Int.reduceEq, decide_true, decide_false, Int.reduceLT, Int.reduceGT])
      | (refine run230 _ _ _ ?_; simp only [go_sem, e, Nat.reduceAdd, Nat.reduceEqDiff, reduceIte, Int.reduceEq, decide_true, decide_false, Int.reduceLT, Int.reduceGT]))
    all_goals refine fin _ _ ?_
    all_goals (try simp only [decide_eq_true_eq, decide_eq_false_iff_not] at *)
    all_goals first
      | (simp [Lk.insOk, offOk, dstB, rdA, rdB, *]; done)
      | (simp_all [Lk.insOk, offOk, dstB, rdA, rdB]; done)
  · simp only [go_sem, e, Nat.reduceAdd, Nat.reduceEqDiff, reduceIte, Int.reduceEq, decide_true, decide_false, Int.reduceLT, Int.reduceGT]
    refine run207 _ _ _ ?_
    simp only [go_sem, e, Nat.reduceAdd, Nat.reduceEqDiff, reduceIte, Int.reduceEq, decide_true, decide_false, Int.reduceLT, Int.reduceGT]
    repeat' (first
      | (refine AIf_intro (fun hb => ?_) (fun hb => ?_) <;> simp only [hb, go_sem, e, Nat.reduceAdd, Nat.reduceEqDiff, reduceIte, Int.reduceEq, decide_true, decide_false, Int.reduceLT, Int.reduceGT])
      | (refine run227 i _ _ ?_; simp only [go_sem, e, Nat.reduceAdd, Nat.reduceEqDiff, reduceIte, Int.reduceEq, decide_true, decide_false, Int.reduceLT, Int.reduceGT])
      | (refine run228 l i hl _ _ ?_; simp only [go_sem, e, Nat.reduceAdd, Nat.reduceEqDiff, reduceIte, Int.reduceEq, decide_true, decide_false, Int.reduceLT, Int.reduceGT])
      | (refine run229 l _ _ _ _ ?_; simp only [go_sem, e, Nat.reduceAdd, Nat.reduceEqDiff, reduceIte, Int.reduceEq, decide_true, decide_false, Int.reduceLT, Int.reduceGT])
      | (refine run230 _ _ _ ?_; simp only [go_sem, e, Nat.reduceAdd, Nat.reduceEqDiff, reduceIte, Int.reduceEq, decide_true, decide_false, Int.reduceLT, Int.reduceGT]))
    all_goals refine fin _ _ ?_
    all_goals (try simp only [decide_eq_true_eq, decide_eq_false_iff_not] at *)
    all_goals first
      | (simp [Lk.insOk, offOk, dstB, rdA, rdB, *]; done)
      | (simp_all [Lk.insOk, offOk, dstB, rdA, rdB]; done)
  · simp only [go_sem, e1, e2, e3, Nat.reduceAdd, Nat.reduceEqDiff, reduceIte, Int.reduceEq, decide_true, decide_false, Int.reduceLT, Int.reduceGT]
    refine run207 _ _ _ ?_
    simp only [go_sem, e1, e2, e3, Nat.reduceAdd, Nat.reduceEqDiff, reduceIte, Int.reduceEq, decide_true, decide_false, Int.reduceLT, Int.reduceGT]
    repeat' (first
      | (refine AIf_intro (fun hb => ?_) (fun hb => ?_) <;> simp only [hb, go_sem, e1, e2, e3, Nat.reduceAdd, Nat.reduceEqDiff, reduceIte, Int.reduceEq, decide_true, decide_false, Int.reduceLT, Int.reduceGT])
      | (refine run227 i _ _ ?_; simp only [go_sem, e1, e2, e3, Nat.reduceAdd, Nat.reduceEqDiff, reduceIte, Int.reduceEq, decide_true, decide_false, Int.reduceLT, Int.reduceGT])
      | (refine run228 l i hl _ _ ?_; simp only [go_sem, e1, e2, e3, Nat.reduceAdd, Nat.reduceEqDiff, reduceIte, Int.reduceEq, decide_true, decide_false, Int.reduceLT, Int.reduceGT])
      | (refine run229 l _ _ _ _ ?_; simp only [go_sem, e1, e2, e3, Nat.reduceAdd, Nat.reduceEqDiff, reduceIte, Int.reduceEq, decide_true, decide_false, Int.reduceLT, Int.reduceGT])
      | (refine run230 _ _ _ ?_; simp only [go_sem, e1, e2, e3, Nat.reduceAdd, Nat.reduceEqDiff, reduceIte, Int.reduceEq, decide_true, decide_false, Int.reduceLT, Int.reduceGT]))
    all_goals refine fin _ _ ?_
    all_goals (try simp only [decide_eq_true_eq, decide_eq_false_iff_not] at *)
    all_goals first
      | (simp [Lk.insOk, offOk, dstB, rdA, rdB, *]; done)
      | (simp_all [Lk.insOk, offOk, dstB, rdA, rdB]; done)
end Go.Am
