/- A part of the proof that AliasThings and AliasMeets return true for every module: texts on an abstract reading of the code (AmLib, AmTypes, AmF118, AmF60, AmIr1, AmIr2, AmIr3, AmIr4). -/
import Derived.Test.YtdmaniffgdpfeaaXAmFacts
set_option linter.unusedVariables false
set_option linter.unusedSimpArgs false
set_option linter.unusedSectionVars false
namespace Go.Am
open Go Go.Proofs
abbrev I (n : Int) : AV := .val (.int .i64 n)
abbrev B (n : Bool) : AV := .val (.bool n)
theorem wrap_i64 {n : Int} (h0 : -9223372036854775808 ≤ n) (h : n < 9223372036854775808) : IntKind.i64.wrap n = n := by
  simp only [IntKind.wrap, IntKind.bits, IntKind.signed, Bool.true_and]
  split <;> rename_i hh <;> simp at hh <;> omega
/-- a heap and more -/
def HExt (h hh : Heap) : Prop := ∃ g, hh = h ++ g
theorem HExt.refl {h : Heap} : HExt h h := ⟨[], by simp⟩
theorem HExt.app {h hh : Heap} {x} (e : HExt h hh) : HExt h (hh ++ x) := by
  obtain ⟨g, rfl⟩ := e
  exact ⟨g ++ x, by simp⟩
theorem HExt.get {h hh : Heap} (e : HExt h hh) {o : Nat} {x} (ho : h[o]? = some x) : hh[o]? = some x := by
  obtain ⟨g, rfl⟩ := e
  rw [List.getElem?_append_left (List.getElem?_eq_some_iff.1 ho).1]; exact ho
/-- a value that is no reference is what comes back; what was made is left -/
theorem WRet.val {h hh : Heap} {K : AV → Heap → Prop} {v : Value} (e : HExt h hh) (hk : K (.val v) h) : WRet h K (.val v) hh := by
  obtain ⟨g, rfl⟩ := e
  exact ⟨.val v, h, Wk.free (.one _ _ (by simp) (.pure _ (.val _))) .refl, hk⟩
theorem WRet.bool {h hh : Heap} {K : AV → Heap → Prop} {a b : Bool} (e : HExt h hh) (hk : K (B b) h) (he : a = b) : WRet h K (.val (.bool a)) hh := he ▸ WRet.val e (he ▸ hk)
theorem HExt.mk {h g : Heap} : HExt h (h ++ g) := ⟨g, rfl⟩
theorem HExt.trans {a b c : Heap} (h1 : HExt a b) (h2 : HExt b c) : HExt a c := by
  obtain ⟨g, rfl⟩ := h1
  obtain ⟨g', rfl⟩ := h2
  exact ⟨g ++ g', by simp⟩
theorem HExt.last {h hh : Heap} {x} (e : HExt (h ++ [x]) hh) : hh[h.length]? = some x := e.get (by simp)
theorem WRet.vals {h hh : Heap} {K : AV → Heap → Prop} {vs : List Value} (e : HExt h hh) (hk : K (.tup (vs.map .val)) h) : WRet h K (.tup (vs.map .val)) hh := by
  obtain ⟨g, rfl⟩ := e
  refine ⟨.tup (vs.map .val), h, Wk.free (.tup _ _ rfl fun i x y h1 h2 => ?_) .refl, hk⟩
  rw [h1] at h2; cases h2
  obtain ⟨v, -, rfl⟩ := List.mem_map.1 (List.mem_of_getElem? h1)
  exact ⟨by simp, .pure _ (.val _)⟩
theorem getD_map {α} (f : α → AV) (l : List α) {n : Nat} (hn : n < l.length) : (l.map f).getD n .any = f l[n] := by
  simp [List.getD, hn]
theorem aindex_map {α} {P t} {h : Heap} {K} {sz} {f : α → AV} {l : List α} {k} {n : Nat} : aindex P t h K (.il sz (l.map f)) (.val (.int k n)) = ((slElem P t).map (szOf P) = some sz ∧ ABound n l.length ∧ K (.iptr ((l.map f).getD n .any)) h) := by
  rw [aindex_il]; simp
theorem Frz.aggL {n h xs ys} (f : FrzL n h xs ys) : Frz n h (.agg xs) (.agg ys) := .agg xs ys f.spec.1 f.spec.2
theorem Frz.v {n h v} : Frz n h (.val v) (.val v) := .pure _ (.val v)
theorem WRet.of {h hh : Heap} {K : AV → Heap → Prop} {x y : AV} (e : HExt h hh) (hf : Frz h.length hh x y) (hx : ∀ xs, x ≠ .tup xs) (hk : K y h) : WRet h K x hh := by
  obtain ⟨g, rfl⟩ := e
  exact ⟨y, h, Wk.free (.one _ _ hx hf) .refl, hk⟩
end Go.Am

namespace Go.Am
open Go Go.Proofs
structure MSlot where
  name : ByteArray
  size : Int
  align : Int
  cell : Int
structure MIns where
  op : Int
  d : Int
  a : Int
  b : Int
  fn : Int
  obj : Int
  off : Int
  size : Int
  num : Int
  args : List Int
  log : Bool
structure MBlk where
  ins : List MIns
  kind : Int
  a : Int
  to : Int
  els : Int
structure MProc where
  name : ByteArray
  void : Bool
  params : Int
  regs : Int
  objects : List MSlot
  blocks : List MBlk
structure MMod where
  globals : List MSlot
  data : List (List Int)
  procs : List MProc
  main : Int
abbrev U32 (n : Int) : AV := .val (.int .u32 n)
abbrev U8 (n : Int) : AV := .val (.int .u8 n)
def MSlot.enc (s : MSlot) : AV := .agg [.val (.string s.name), I s.size, I s.align, I s.cell]
def MIns.enc (i : MIns) : AV := .agg [I i.op, I i.d, I i.a, I i.b, I i.fn, I i.obj, I i.off, I i.size, U32 i.num, .il 1 (i.args.map I), B i.log]
def MBlk.enc (b : MBlk) : AV := .agg [.il 11 (b.ins.map MIns.enc), I b.kind, I b.a, I b.to, I b.els]
def MProc.enc (p : MProc) : AV := .agg [.val (.string p.name), B p.void, I p.params, I p.regs, .il 4 (p.objects.map MSlot.enc), .il 5 (p.blocks.map MBlk.enc)]
def bytesAV (l : List Int) : AV := .il 1 (l.map U8)
def MMod.enc (m : MMod) : AV := .agg [.il 4 (m.globals.map MSlot.enc), .il 1 (m.data.map bytesAV), .il 6 (m.procs.map MProc.enc), I m.main]
theorem shape_slot {x : MSlot} : shapeOk Try.prog 95 x.enc = True := by simp only [MSlot.enc, go_sem, Nat.reduceAdd]
theorem flen_slot {x : MSlot} : (flat x.enc).length = 4 := by simp only [MSlot.enc, go_sem]
theorem sto_slot {x : MSlot} : sto (flat x.enc) = true := by simp only [MSlot.enc, go_sem]
theorem partOk_slot {x : MSlot} : partOk x.enc = true := nr rfl
theorem shape_ins {x : MIns} : shapeOk Try.prog 39 x.enc = True := by simp only [MIns.enc, go_sem, Nat.reduceAdd]
theorem flen_ins {x : MIns} : (flat x.enc).length = 11 := by simp only [MIns.enc, go_sem]
theorem sto_ins {x : MIns} : sto (flat x.enc) = true := by simp only [MIns.enc, go_sem]
theorem partOk_ins {x : MIns} : partOk x.enc = true := nr rfl
theorem shape_blk {x : MBlk} : shapeOk Try.prog 35 x.enc = True := by simp only [MBlk.enc, go_sem, Nat.reduceAdd]
theorem flen_blk {x : MBlk} : (flat x.enc).length = 5 := by simp only [MBlk.enc, go_sem]
theorem sto_blk {x : MBlk} : sto (flat x.enc) = true := by simp only [MBlk.enc, go_sem]
theorem partOk_blk {x : MBlk} : partOk x.enc = true := nr rfl
theorem shape_proc {x : MProc} : shapeOk Try.prog 32 x.enc = True := by simp only [MProc.enc, go_sem, Nat.reduceAdd]
theorem flen_proc {x : MProc} : (flat x.enc).length = 6 := by simp only [MProc.enc, go_sem]
theorem sto_proc {x : MProc} : sto (flat x.enc) = true := by simp only [MProc.enc, go_sem]
theorem partOk_proc {x : MProc} : partOk x.enc = true := nr rfl
theorem shape_mod {x : MMod} : shapeOk Try.prog 26 x.enc = True := by simp only [MMod.enc, go_sem, Nat.reduceAdd]
theorem flen_mod {x : MMod} : (flat x.enc).length = 4 := by simp only [MMod.enc, go_sem]
theorem sto_mod {x : MMod} : sto (flat x.enc) = true := by simp only [MMod.enc, go_sem]
theorem partOk_mod {x : MMod} : partOk x.enc = true := nr rfl
attribute [go_sem] shape_slot flen_slot sto_slot partOk_slot shape_ins flen_ins sto_ins partOk_ins shape_blk flen_blk sto_blk partOk_blk shape_proc flen_proc sto_proc partOk_proc shape_mod flen_mod sto_mod partOk_mod
/-- lengths that can be -/
def Len {α} (l : List α) : Prop := l.length < 9223372036854775808
structure MIns.Lens (i : MIns) : Prop where
  args : Len i.args
structure MBlk.Lens (b : MBlk) : Prop where
  ins : Len b.ins
  each : ∀ i ∈ b.ins, i.Lens
structure MProc.Lens (p : MProc) : Prop where
  objects : Len p.objects
  blocks : Len p.blocks
  each : ∀ b ∈ p.blocks, b.Lens
structure MMod.Lens (m : MMod) : Prop where
  globals : Len m.globals
  data : Len m.data
  datas : ∀ d ∈ m.data, Len d
  procs : Len m.procs
  each : ∀ p ∈ m.procs, p.Lens
end Go.Am

set_option maxRecDepth 100000
set_option maxHeartbeats 1000000
namespace Go.Am
open Go Go.Proofs
def few1 (x : Int) : Bool := !(decide (x > 1099511627776) || decide (x < -1099511627776))
def MIns.nums (i : MIns) : List Int := [i.op, i.d, i.a, i.b, i.fn, i.obj, i.off, i.size]
def MIns.few (i : MIns) : Bool := i.nums.all few1 && i.args.all few1 && decide (i.args.length ≤ 12)
theorem run118 (i : MIns) (hl : i.Lens) (h : Heap) (K) (hK : K (B i.few) h) : RunsK Try.prog 118 [i.enc] h K := by
  refine RunsK.intro Try.func118 rfl (by decide) (by simp only [Try.f118, go_sem]; decide) ?_
  simp only [Try.f118]
  simp only [go_sem, MIns.enc, Nat.reduceAdd]
  refine ⟨by decide, ?_⟩
  refine aLoop_intro [1, 3, 4] (fun vs hh => ∃ k : Nat, hh = h ++ [some (.arr 39 11 [i.enc]), some (.arr 3 1 (i.nums.map I))] ∧ vs = [.ptr h.length 11 0 0 [], .sl (h.length + 1) 1 0 8 (some 8), I k] ∧ k ≤ 8 ∧ (i.nums.drop k).all few1 = i.nums.all few1)
    (fun vs _ => match vs with | [_, _, .val (.int _ k)] => 8 - k.toNat | _ => 0) ?_ ?_
  · simp only [go_sem]
    exact ⟨0, rfl, rfl, by omega, rfl⟩
  · rintro vs hh - ⟨k, rfl, rfl, hk, hs⟩
    simp only [go_sem]
    refine AIf_intro (fun hlt => ?_) (fun hge => ?_)
    · simp only [decide_eq_true_eq] at hlt
      have hlt' : k < i.nums.length := by simp [MIns.nums]; omega
      have hab : ABound k (8 : Nat) := ⟨by omega, by omega⟩
      rw [List.drop_eq_getElem_cons hlt', List.all_cons] at hs
      simp only [go_sem, hlt', hab, getD_map I i.nums hlt']
      repeat' (refine AIf_intro (fun hb => ?_) (fun hb => ?_) <;> simp only [hb, go_sem, hlt', hab, getD_map I i.nums hlt'])
      all_goals simp only [decide_eq_true_eq, decide_eq_false_iff_not] at *
      · refine WRet.val ⟨_, rfl⟩ ?_
        rwa [show i.few = false by rw [MIns.few, ← hs, show few1 i.nums[k] = false by simp [few1]; omega]; rfl] at hK
      · refine WRet.val ⟨_, rfl⟩ ?_
        rwa [show i.few = false by rw [MIns.few, ← hs, show few1 i.nums[k] = false by simp [few1]; omega]; rfl] at hK
      · rw [wrap_i64 (by omega) (by omega)]
        refine ⟨⟨k + 1, rfl, by omega, ?_⟩, by omega⟩
        rw [← hs, show few1 i.nums[k] = true by simp [few1]; omega, Bool.true_and]
    · simp only [hge, go_sem]
      simp only [decide_eq_false_iff_not] at hge
      have hk8 : k = 8 := by omega
      subst hk8
      rw [List.drop_eq_nil_of_le (by simp [MIns.nums])] at hs
      have hargs := hl.args
      unfold Len at hargs
      refine aLoop_intro [1, 5] (fun vs hh => ∃ k : Nat, hh = h ++ [some (.arr 39 11 [i.enc]), some (.arr 3 1 (i.nums.map I))] ∧ vs = [.ptr h.length 11 0 0 [], I k] ∧ k ≤ i.args.length ∧ (i.args.drop k).all few1 = i.args.all few1)
        (fun vs _ => match vs with | [_, .val (.int _ k)] => i.args.length - k.toNat | _ => 0) ?_ ?_
      · simp only [go_sem]
        exact ⟨0, rfl, by omega, rfl⟩
      · rintro vs hh - ⟨k, rfl, rfl, hk, hs2⟩
        simp only [go_sem, MIns.enc, Nat.reduceAdd]
        refine AIf_intro (fun hlt => ?_) (fun hge => ?_)
        · simp only [decide_eq_true_eq] at hlt
          have hlt' : k < i.args.length := by omega
          have hab : ABound k i.args.length := ⟨by omega, by omega⟩
          rw [List.drop_eq_getElem_cons hlt', List.all_cons] at hs2
          simp only [go_sem, hlt', hab, getD_map I i.args hlt', Nat.reduceAdd]
          repeat' (refine AIf_intro (fun hb => ?_) (fun hb => ?_) <;> simp only [hb, go_sem, hlt', hab, getD_map I i.args hlt', Nat.reduceAdd])
          all_goals simp only [decide_eq_true_eq, decide_eq_false_iff_not] at *
          · refine WRet.val ⟨_, rfl⟩ ?_
            rwa [show i.few = false by rw [MIns.few, ← hs2, show few1 i.args[k] = false by simp [few1]; omega]; simp] at hK
          · refine WRet.val ⟨_, rfl⟩ ?_
            rwa [show i.few = false by rw [MIns.few, ← hs2, show few1 i.args[k] = false by simp [few1]; omega]; simp] at hK
          · rw [wrap_i64 (by omega) (by omega)]
            refine ⟨⟨k + 1, rfl, by omega, ?_⟩, by omega⟩
            rw [← hs2, show few1 i.args[k] = true by simp [few1]; omega, Bool.true_and]
        · simp only [hge, go_sem, Nat.reduceAdd]
          simp only [decide_eq_false_iff_not] at hge
          rw [List.drop_eq_nil_of_le (by omega)] at hs2
          refine WRet.val ⟨_, rfl⟩ ?_
          rw [MIns.few, ← hs, ← hs2] at hK
          have e : (decide ((i.args.length : Int) ≤ 12)) = decide (i.args.length ≤ 12) := by simp; omega
          rw [e]
          simpa using hK
end Go.Am

set_option maxRecDepth 100000
set_option maxHeartbeats 1000000
set_option linter.unusedSimpArgs false
namespace Go.Am
open Go Go.Proofs
def MBlk.few (b : MBlk) : Bool := decide (b.ins.length ≤ 60) && b.ins.all MIns.few
def MProc.few (p : MProc) : Bool := decide (p.blocks.length ≤ 40) && decide (p.objects.length ≤ 20) && p.blocks.all MBlk.few
def MMod.few (m : MMod) : Bool := decide (m.procs.length ≤ 6) && decide (m.globals.length ≤ 20) && decide (m.data.length ≤ 20) && m.procs.all MProc.few
theorem run60 (m : MMod) (hl : m.Lens) (h : Heap) (K) (hK : K (B m.few) h) : RunsK Try.prog 60 [m.enc] h K := by
  refine RunsK.intro Try.func60 rfl (by decide) (by simp only [Try.f60, go_sem]; decide) ?_
  simp only [Try.f60]
  simp only [go_sem, MMod.enc, Nat.reduceAdd]
  have hlp := hl.procs
  unfold Len at hlp
  have fin : ∀ g, m.few = false → WRet h K (B false) (h ++ g) := fun g e => WRet.val ⟨_, rfl⟩ (by rwa [e] at hK)
  repeat' (refine AIf_intro (fun hb => ?_) (fun hb => ?_) <;> simp only [hb, go_sem, MMod.enc, Nat.reduceAdd])
  all_goals simp only [decide_eq_true_eq, decide_eq_false_iff_not] at *
  · exact fin _ (by simp [MMod.few]; omega)
  · exact fin _ (by simp [MMod.few]; omega)
  · exact fin _ (by simp [MMod.few]; omega)
  rename_i hb1 hb2
  have hm : m.few = m.procs.all MProc.few := by
    rw [MMod.few, decide_eq_true (by omega), decide_eq_true (by omega), decide_eq_true (by omega)]; rfl
  refine aLoop_intro [1, 3] (fun vs hh => ∃ k : Nat, hh = h ++ [some (.arr 26 4 [m.enc])] ∧ vs = [.ptr h.length 4 0 0 [], I k] ∧ k ≤ m.procs.length ∧ (m.procs.drop k).all MProc.few = m.few)
    (fun vs _ => match vs with | [_, .val (.int _ k)] => m.procs.length - k.toNat | _ => 0) ?_ ?_
  · simp only [go_sem]
    exact ⟨0, rfl, rfl, by omega, hm.symm⟩
  · rintro vs hh - ⟨k, rfl, rfl, hk, hs⟩
    simp only [go_sem, MMod.enc, Nat.reduceAdd]
    refine AIf_intro (fun hlt => ?_) (fun hge => ?_)
    · simp only [decide_eq_true_eq] at hlt
      have hlt' : k < m.procs.length := by omega
      have hab : ABound k m.procs.length := ⟨by omega, by omega⟩
      rw [List.drop_eq_getElem_cons hlt', List.all_cons] at hs
      have hlq := hl.each _ (List.getElem_mem hlt')
      have hgd := getD_map MProc.enc m.procs hlt'
      generalize m.procs[k] = p at hs hlq hgd
      have hlb := hlq.blocks
      unfold Len at hlb
      simp only [go_sem, hab, hgd, MProc.enc, Nat.reduceAdd]
      repeat' (refine AIf_intro (fun hb => ?_) (fun hb => ?_) <;> simp only [hb, go_sem, hab, hgd, MProc.enc, Nat.reduceAdd])
      all_goals simp only [decide_eq_true_eq, decide_eq_false_iff_not] at *
      · exact fin _ (by rw [← hs]; simp [MProc.few]; omega)
      · exact fin _ (by rw [← hs]; simp [MProc.few]; omega)
      rename_i hc1 hc2
      have hp : p.few = p.blocks.all MBlk.few := by
        rw [MProc.few, decide_eq_true (by omega), decide_eq_true (by omega)]; rfl
      refine aLoop_intro [1, 3, 4] (fun vs hh => ∃ k2 : Nat, hh = h ++ [some (.arr 26 4 [m.enc])] ∧ vs = [.ptr h.length 4 0 0 [], I k, I k2] ∧ k2 ≤ p.blocks.length ∧ (p.blocks.drop k2).all MBlk.few = p.few)
        (fun vs _ => match vs with | [_, _, .val (.int _ k)] => p.blocks.length - k.toNat | _ => 0) ?_ ?_
      · simp only [go_sem]
        exact ⟨0, rfl, rfl, by omega, hp.symm⟩
      · rintro vs hh - ⟨k2, rfl, rfl, hk2, hs2⟩
        simp only [go_sem, MMod.enc, Nat.reduceAdd, hab, hgd, MProc.enc]
        refine AIf_intro (fun hlt2 => ?_) (fun hge2 => ?_)
        · simp only [decide_eq_true_eq] at hlt2
          have hlt2' : k2 < p.blocks.length := by omega
          have hab2 : ABound k2 p.blocks.length := ⟨by omega, by omega⟩
          rw [List.drop_eq_getElem_cons hlt2', List.all_cons] at hs2
          have hlr := hlq.each _ (List.getElem_mem hlt2')
          have hgd2 := getD_map MBlk.enc p.blocks hlt2'
          generalize p.blocks[k2] = b at hs2 hlr hgd2
          have hli := hlr.ins
          unfold Len at hli
          simp only [go_sem, hab, hgd, hab2, hgd2, MProc.enc, MBlk.enc, Nat.reduceAdd]
          repeat' (refine AIf_intro (fun hb => ?_) (fun hb => ?_) <;> simp only [hb, go_sem, hab, hgd, hab2, hgd2, MProc.enc, MBlk.enc, Nat.reduceAdd])
          all_goals simp only [decide_eq_true_eq, decide_eq_false_iff_not] at *
          · exact fin _ (by rw [← hs, ← hs2]; simp [MBlk.few]; omega)
          have hq : b.few = b.ins.all MIns.few := by
            rw [MBlk.few, decide_eq_true (by omega)]; rfl
          refine aLoop_intro [1, 3, 4, 5] (fun vs hh => ∃ k3 : Nat, hh = h ++ [some (.arr 26 4 [m.enc])] ∧ vs = [.ptr h.length 4 0 0 [], I k, I k2, I k3] ∧ k3 ≤ b.ins.length ∧ (b.ins.drop k3).all MIns.few = b.few)
            (fun vs _ => match vs with | [_, _, _, .val (.int _ k)] => b.ins.length - k.toNat | _ => 0) ?_ ?_
          · simp only [go_sem]
            exact ⟨0, rfl, rfl, by omega, hq.symm⟩
          · rintro vs hh - ⟨k3, rfl, rfl, hk3, hs3⟩
            simp only [go_sem, MMod.enc, Nat.reduceAdd, hab, hgd, hab2, hgd2, MProc.enc, MBlk.enc]
            refine AIf_intro (fun hlt3 => ?_) (fun hge3 => ?_)
            · simp only [decide_eq_true_eq] at hlt3
              have hlt3' : k3 < b.ins.length := by omega
              have hab3 : ABound k3 b.ins.length := ⟨by omega, by omega⟩
              rw [List.drop_eq_getElem_cons hlt3', List.all_cons] at hs3
              have hls := hlr.each _ (List.getElem_mem hlt3')
              have hgd3 := getD_map MIns.enc b.ins hlt3'
              generalize b.ins[k3] = i at hs3 hls hgd3
              simp only [go_sem, hab, hgd, hab2, hgd2, hab3, hgd3, MProc.enc, MBlk.enc, Nat.reduceAdd]
              refine run118 i hls _ _ ?_
              simp only [go_sem]
              refine AIf_intro (fun hb => ?_) (fun hb => ?_)
              · simp only [go_sem, hb]
                have e : i.few = true := by simpa using hb
                rw [e] at hs3
                rw [wrap_i64 (by omega) (by omega)]
                refine ⟨⟨k3 + 1, rfl, by omega, ?_⟩, by omega⟩
                rw [← hs3]; simp
              · simp only [go_sem, hb]
                have e : i.few = false := by simpa using hb
                rw [e] at hs3
                exact fin _ (by rw [← hs, ← hs2, ← hs3]; simp)
            · simp only [hge3, go_sem, Nat.reduceAdd]
              simp only [decide_eq_false_iff_not] at hge3
              rw [List.drop_eq_nil_of_le (by omega)] at hs3
              rw [wrap_i64 (by omega) (by omega)]
              refine ⟨⟨k2 + 1, rfl, by omega, ?_⟩, by omega⟩
              rw [← hs2, ← hs3]; simp
        · simp only [hge2, go_sem, Nat.reduceAdd]
          simp only [decide_eq_false_iff_not] at hge2
          rw [List.drop_eq_nil_of_le (by omega)] at hs2
          rw [wrap_i64 (by omega) (by omega)]
          refine ⟨⟨k + 1, rfl, by omega, ?_⟩, by omega⟩
          rw [← hs, ← hs2]; simp
    · simp only [hge, go_sem, Nat.reduceAdd]
      simp only [decide_eq_false_iff_not] at hge
      rw [List.drop_eq_nil_of_le (by omega)] at hs
      rw [← hs] at hK
      exact WRet.val ⟨_, rfl⟩ hK
end Go.Am

set_option maxRecDepth 100000
set_option maxHeartbeats 1000000
set_option linter.unusedSimpArgs false
namespace Go.Am
open Go Go.Proofs
def MIns.dreg (i : MIns) : Int := if i.op = 1 ∨ i.op = 2 ∨ i.op = 3 ∨ i.op = 4 ∨ i.op = 5 ∨ i.op = 7 ∨ i.op = 8 ∨ i.op = 9 ∨ i.op = 11 then i.d else -1
def rdA (op : Int) : Bool := decide (op = 2 ∨ op = 3 ∨ op = 4 ∨ op = 5 ∨ op = 6 ∨ op = 10)
def rdB (op : Int) : Bool := decide (op = 3 ∨ op = 6)
/-- how many instructions -/
def insOf (l : List MBlk) : Nat := (l.map fun b => b.ins.length).sum
theorem insOf_cons {b l} : insOf (b :: l) = b.ins.length + insOf l := by simp [insOf]
theorem insOf_nil : insOf [] = 0 := rfl
theorem run78 (i : MIns) (h : Heap) (K) (hK : K (I i.dreg) h) : RunsK Try.prog 78 [i.enc] h K := by
  refine RunsK.intro Try.func78 rfl (by decide) (by simp only [Try.f78, go_sem]; decide) ?_
  simp only [Try.f78]
  simp only [go_sem, MIns.enc, Nat.reduceAdd]
  repeat' (refine AIf_intro (fun hb => ?_) (fun hb => ?_) <;> simp only [hb, go_sem, MIns.enc, Nat.reduceAdd])
  all_goals simp only [decide_eq_true_eq, decide_eq_false_iff_not] at *
  all_goals (refine WRet.val ⟨_, rfl⟩ ?_; simpa [MIns.dreg, *] using hK)
theorem run207 (op : Int) (h : Heap) (K) (hK : K (.tup [B (rdA op), B (rdB op)]) h) : RunsK Try.prog 207 [I op] h K := by
  refine RunsK.intro Try.func207 rfl (by decide) (by simp only [Try.f207, go_sem]; decide) ?_
  simp only [Try.f207]
  simp only [go_sem, Nat.reduceAdd]
  repeat' (refine AIf_intro (fun hb => ?_) (fun hb => ?_) <;> simp only [hb, go_sem, Nat.reduceAdd, Nat.reduceEqDiff, reduceIte])
  all_goals simp only [decide_eq_true_eq, decide_eq_false_iff_not] at *
  all_goals (refine WRet.vals (vs := [.bool _, .bool _]) .refl ?_; simpa [rdA, rdB, *] using hK)
theorem run111 (p : MProc) (hl : p.Lens) (hb : p.blocks.length + insOf p.blocks < 9223372036854775808) (h : Heap) (K) (hK : K (I (p.blocks.length + insOf p.blocks : Nat)) h) : RunsK Try.prog 111 [p.enc] h K := by
  refine RunsK.intro Try.func111 rfl (by decide) (by simp only [Try.f111, go_sem]; decide) ?_
  simp only [Try.f111]
  simp only [go_sem, MProc.enc, Nat.reduceAdd]
  refine aLoop_intro [3, 10, 11, 12] (fun vs hh => ∃ k s : Nat, HExt h hh ∧ vs = [I s, .il 5 (p.blocks.map MBlk.enc), I p.blocks.length, I k] ∧ k ≤ p.blocks.length ∧ s + insOf (p.blocks.drop k) = p.blocks.length + insOf p.blocks)
    (fun vs _ => match vs with | [_, _, _, .val (.int _ k)] => p.blocks.length - k.toNat | _ => 0) ?_ ?_
  · simp only [go_sem]
    exact ⟨0, p.blocks.length, HExt.refl.app, rfl, by omega, rfl⟩
  · rintro vs hh - ⟨k, s, hx, rfl, hk, hs⟩
    simp only [go_sem, Nat.reduceAdd]
    refine AIf_intro (fun hlt => ?_) (fun hge => ?_)
    · simp only [decide_eq_true_eq] at hlt
      have hlt' : k < p.blocks.length := by omega
      have hab : ABound k p.blocks.length := ⟨by omega, by omega⟩
      have hgd := getD_map MBlk.enc p.blocks hlt'
      rw [List.drop_eq_getElem_cons hlt', insOf_cons] at hs
      generalize p.blocks[k] = b at hs hgd
      simp only [go_sem, hab, hgd, MBlk.enc, Nat.reduceAdd]
      rw [wrap_i64 (by omega) (by omega), wrap_i64 (by omega) (by omega)]
      refine ⟨⟨k + 1, s + b.ins.length, hx.app, rfl, by omega, by omega⟩, by omega⟩
    · simp only [hge, go_sem]
      simp only [decide_eq_false_iff_not] at hge
      rw [List.drop_eq_nil_of_le (by omega), insOf_nil] at hs
      rw [← hs] at hK
      exact WRet.val hx hK
end Go.Am

set_option maxRecDepth 100000
set_option maxHeartbeats 1000000
set_option linter.unusedSimpArgs false
set_option linter.unusedVariables false
namespace Go.Am
open Go Go.Proofs
def MIns.plain (i : MIns) : MIns :=
  { op := i.op, d := -1, a := -1, b := -1, args := [],
    fn := if i.op = 3 ∨ i.op = 4 then 0 else i.fn,
    obj := if i.op = 7 ∨ i.op = 8 ∨ i.op = 9 then 0 else i.obj,
    off := if i.op = 5 ∨ i.op = 6 ∨ i.op = 7 ∨ i.op = 8 then 0 else i.off,
    size := if i.op = 5 ∨ i.op = 6 then 0 else i.size,
    num := if i.op = 1 then 0 else i.num,
    log := if i.op = 6 ∨ i.dreg ≠ -1 then false else i.log }
theorem run247 (i : MIns) (h : Heap) (K) (hK : K i.plain.enc h) : RunsK Try.prog 247 [i.enc] h K := by
  refine RunsK.intro Try.func247 rfl (by decide) (by simp only [Try.f247, go_sem]; decide) ?_
  simp only [Try.f247]
  simp only [go_sem, MIns.enc, Nat.reduceAdd, Nat.reduceEqDiff, reduceIte]
  repeat' (first
    | (refine AIf_intro (fun hb => ?_) (fun hb => ?_) <;> simp only [hb, go_sem, MIns.enc, Nat.reduceAdd, Nat.reduceEqDiff, reduceIte])
    | (refine run78 i _ _ ?_; simp only [go_sem, MIns.enc, Nat.reduceAdd, Nat.reduceEqDiff, reduceIte]))
  all_goals simp only [decide_eq_true_eq, decide_eq_false_iff_not] at *
  all_goals first
    | (exfalso; omega)
    | (refine WRet.of ⟨_, rfl⟩ (Frz.aggL (.cons .v (.cons .v (.cons .v (.cons .v (.cons .v (.cons .v (.cons .v (.cons .v (.cons .v (.cons (.nil 1) (.cons .v .nil)))))))))))) (by simp) ?_
       simpa [MIns.plain, MIns.enc, *] using hK)
end Go.Am

set_option maxRecDepth 100000
set_option maxHeartbeats 1000000
set_option linter.unusedSimpArgs false
set_option linter.unusedVariables false
namespace Go.Am
open Go Go.Proofs
def MIns.bare (i : MIns) : Bool := decide (i.plain.fn = 0) && decide (i.plain.obj = 0) && decide (i.plain.off = 0) && decide (i.plain.size = 0) && decide (i.plain.num = 0) && !i.plain.log && (decide (i.op = 9) || decide (i.args.length = 0))
structure Lk where
  m : MMod
  p : MProc
def Lk.enc (l : Lk) : AV := .agg [l.m.enc, l.p.enc]
def regOk (regs r : Int) (should : Bool) : Bool := if should then decide (r ≥ 0) && decide (r < regs) else decide (r = -1)
theorem run227 (i : MIns) (h : Heap) (K) (hK : K (B i.bare) h) : RunsK Try.prog 227 [i.enc] h K := by
  refine RunsK.intro Try.func227 rfl (by decide) (by simp only [Try.f227, go_sem]; decide) ?_
  simp only [Try.f227]
  simp only [go_sem, Nat.reduceAdd, Nat.reduceEqDiff, reduceIte]
  refine run247 i _ _ ?_
  generalize hx : i.plain = x
  rw [show i.bare = (decide (x.fn = 0) && decide (x.obj = 0) && decide (x.off = 0) && decide (x.size = 0) && decide (x.num = 0) && !x.log && (decide (i.op = 9) || decide (i.args.length = 0))) by rw [← hx]; rfl] at hK
  simp only [go_sem, MIns.enc, Nat.reduceAdd, Nat.reduceEqDiff, reduceIte]
  repeat' (refine AIf_intro (fun hb => ?_) (fun hb => ?_) <;> simp only [hb, go_sem, MIns.enc, Nat.reduceAdd, Nat.reduceEqDiff, reduceIte])
  all_goals simp only [decide_eq_true_eq, decide_eq_false_iff_not] at *
  all_goals refine WRet.bool .mk hK ?_
  all_goals first
    | (simp [*]; done)
    | (rw [Bool.eq_iff_iff]; simp [*]; done)
    | (rw [Bool.eq_iff_iff]; simp [*]; omega)
theorem run229 (l : Lk) (r : Int) (s : Bool) (h : Heap) (K) (hK : K (B (regOk l.p.regs r s)) h) : RunsK Try.prog 229 [l.enc, I r, B s] h K := by
  refine RunsK.intro Try.func229 rfl (by decide) (by simp only [Try.f229, go_sem]; decide) ?_
  simp only [Try.f229]
  simp only [go_sem, Lk.enc, MMod.enc, MProc.enc, Nat.reduceAdd, Nat.reduceEqDiff, reduceIte]
  repeat' (refine AIf_intro (fun hb => ?_) (fun hb => ?_) <;> simp only [hb, go_sem, MProc.enc, Nat.reduceAdd, Nat.reduceEqDiff, reduceIte])
  all_goals refine WRet.bool .mk hK ?_
  all_goals (cases s <;> simp_all [regOk])
  all_goals first | (rw [Bool.eq_iff_iff]; simp; done) | omega
theorem run230 (n : Int) (h : Heap) (K) (hK : K (B (decide (n ≥ -32768) && decide (n ≤ 32768))) h) : RunsK Try.prog 230 [I n] h K := by
  refine RunsK.intro Try.func230 rfl (by decide) (by simp only [Try.f230, go_sem]; decide) ?_
  simp only [Try.f230]
  simp only [go_sem, Nat.reduceAdd, Nat.reduceEqDiff, reduceIte]
  repeat' (refine AIf_intro (fun hb => ?_) (fun hb => ?_) <;> simp only [hb, go_sem, Nat.reduceAdd, Nat.reduceEqDiff, reduceIte])
  all_goals (refine WRet.val .refl ?_; simpa [*] using hK)
theorem run231 (l : Lk) (n : Int) (h : Heap) (K) (hK : K (B (decide (n ≥ 0) && decide (n < l.p.blocks.length))) h) : RunsK Try.prog 231 [l.enc, I n] h K := by
  refine RunsK.intro Try.func231 rfl (by decide) (by simp only [Try.f231, go_sem]; decide) ?_
  simp only [Try.f231]
  simp only [go_sem, Lk.enc, MMod.enc, MProc.enc, Nat.reduceAdd, Nat.reduceEqDiff, reduceIte]
  repeat' (refine AIf_intro (fun hb => ?_) (fun hb => ?_) <;> simp only [hb, go_sem, MProc.enc, Nat.reduceAdd, Nat.reduceEqDiff, reduceIte])
  all_goals refine WRet.bool .mk hK ?_
  all_goals (rw [Bool.eq_iff_iff]; simp [*])
end Go.Am

set_option maxRecDepth 100000
set_option maxHeartbeats 1000000
set_option linter.unusedSimpArgs false
set_option linter.unusedVariables false
namespace Go.Am
open Go Go.Proofs
def Lk.block (l : Lk) (n : Int) : Bool := decide (n ≥ 0) && decide (n < l.p.blocks.length)
def Lk.endOk (l : Lk) (b : MBlk) : Bool :=
  if b.kind = 1 then l.block b.to && decide (b.a = -1) && decide (b.els = 0)
  else if b.kind = 2 then l.block b.to && l.block b.els && regOk l.p.regs b.a true
  else if b.kind = 3 then regOk l.p.regs b.a (!l.p.void) && decide (b.to = 0) && decide (b.els = 0)
  else false
def Lk.callOk (l : Lk) (i : MIns) : Bool := if h : 0 ≤ i.obj ∧ i.obj < l.m.procs.length then
    decide ((i.args.length : Int) = (l.m.procs[i.obj.toNat]'(by omega)).params) && regOk l.p.regs i.d (!(l.m.procs[i.obj.toNat]'(by omega)).void) && i.args.all fun r => regOk l.p.regs r true
  else false
theorem shape_lk {x : Lk} : shapeOk Try.prog 234 x.enc = True := by simp only [Lk.enc, go_sem, Nat.reduceAdd]
theorem flen_lk {x : Lk} : (flat x.enc).length = 10 := by simp only [Lk.enc, go_sem]
theorem sto_lk {x : Lk} : sto (flat x.enc) = true := by simp only [Lk.enc, go_sem]
theorem partOk_lk {x : Lk} : partOk x.enc = true := nr rfl
attribute [go_sem] shape_lk flen_lk sto_lk partOk_lk
theorem run205 (l : Lk) (b : MBlk) (h : Heap) (K) (hK : K (B (l.endOk b)) h) : RunsK Try.prog 205 [l.enc, b.enc] h K := by
  refine RunsK.intro Try.func205 rfl (by decide) (by simp only [Try.f205, go_sem]; decide) ?_
  simp only [Try.f205]
  simp only [go_sem, Lk.enc, MBlk.enc, Nat.reduceAdd, Nat.reduceEqDiff, reduceIte]
  repeat' (first
    | (refine AIf_intro (fun hb => ?_) (fun hb => ?_) <;> simp only [hb, go_sem, MMod.enc, MProc.enc, MBlk.enc, Nat.reduceAdd, Nat.reduceEqDiff, reduceIte])
    | (refine run231 l _ _ _ ?_; simp only [go_sem, MBlk.enc, Nat.reduceAdd, Nat.reduceEqDiff, reduceIte])
    | (refine run229 l _ _ _ _ ?_; simp only [go_sem, MBlk.enc, Nat.reduceAdd, Nat.reduceEqDiff, reduceIte]))
  all_goals refine WRet.bool .mk hK ?_
  all_goals simp only [decide_eq_true_eq, decide_eq_false_iff_not] at *
  all_goals simp [Lk.endOk, Lk.block, *]
theorem run228 (l : Lk) (i : MIns) (hl : i.Lens) (h : Heap) (K) (hK : K (B (l.callOk i)) h) : RunsK Try.prog 228 [l.enc, i.enc] h K := by
  have hla := hl.args
  unfold Len at hla
  refine RunsK.intro Try.func228 rfl (by decide) (by simp only [Try.f228, go_sem]; decide) ?_
  simp only [Try.f228]
  simp only [go_sem, Lk.enc, MIns.enc, MMod.enc, MProc.enc, Nat.reduceAdd, Nat.reduceEqDiff, reduceIte]
  refine AIf_intro (fun hb => ?_) (fun hb => ?_) <;> simp only [hb, go_sem, MMod.enc, MIns.enc, MProc.enc, Nat.reduceAdd, Nat.reduceEqDiff, reduceIte]
  · refine WRet.bool .mk hK ?_
    simp only [decide_eq_true_eq] at hb
    rw [Lk.callOk, dif_neg (by omega)]
  refine AIf_intro (fun hc => ?_) (fun hc => ?_) <;> simp only [hc, go_sem, MMod.enc, MIns.enc, MProc.enc, Nat.reduceAdd, Nat.reduceEqDiff, reduceIte]
  · refine WRet.bool .mk hK ?_
    simp only [decide_eq_true_eq] at hc
    rw [Lk.callOk, dif_neg (by omega)]
  simp only [decide_eq_true_eq, decide_eq_false_iff_not] at hb hc
  have hin : 0 ≤ i.obj ∧ i.obj < l.m.procs.length := by omega
  have hlt' : i.obj.toNat < l.m.procs.length := by omega
  have hab : ABound i.obj l.m.procs.length := ⟨by omega, by omega⟩
  have hgd := getD_map MProc.enc l.m.procs hlt'
  rw [Lk.callOk, dif_pos hin] at hK
  generalize l.m.procs[i.obj.toNat] = p at hK hgd
  simp only [hab, hgd, go_sem, MMod.enc, MIns.enc, MProc.enc, Nat.reduceAdd, Nat.reduceEqDiff, reduceIte]
  repeat' (first
    | (refine AIf_intro (fun hb => ?_) (fun hb => ?_) <;> simp only [hb, go_sem, MMod.enc, MProc.enc, MIns.enc, Nat.reduceAdd, Nat.reduceEqDiff, reduceIte])
    | (refine run229 l _ _ _ _ ?_; simp only [go_sem, MIns.enc, MMod.enc, MProc.enc, Nat.reduceAdd, Nat.reduceEqDiff, reduceIte]))
  · refine aLoop_intro [2, 44, 45, 46] (fun vs hh => ∃ k : Nat, HExt h hh ∧ hh[h.length]? = some (some (.arr 234 10 [l.enc])) ∧ vs = [.ptr h.length 10 0 0 [], .il 1 (i.args.map I), I i.args.length, I k] ∧ k ≤ i.args.length ∧ (i.args.drop k).all (fun r => regOk l.p.regs r true) = i.args.all (fun r => regOk l.p.regs r true))
      (fun vs _ => match vs with | [_, _, _, .val (.int _ k)] => i.args.length - k.toNat | _ => 0) ?_ ?_
    · simp only [go_sem]
      exact ⟨0, .mk, rfl, rfl, by omega, rfl⟩
    · rintro vs hh - ⟨k, hx, ho, rfl, hk, hs⟩
      simp only [go_sem, ho]
      refine AIf_intro (fun hlt => ?_) (fun hge => ?_)
      · simp only [decide_eq_true_eq] at hlt
        have hlt' : k < i.args.length := by omega
        have hab : ABound k i.args.length := ⟨by omega, by omega⟩
        rw [List.drop_eq_getElem_cons hlt', List.all_cons] at hs
        have hgd := getD_map I i.args hlt'
        generalize i.args[k] = r at hs hgd
        simp only [go_sem, hab, hgd, ho, Nat.reduceAdd]
        refine run229 l _ _ _ _ ?_
        simp only [go_sem]
        refine AIf_intro (fun hr => ?_) (fun hr => ?_) <;> simp only [hr, go_sem]
        · rw [hr] at hs
          rw [wrap_i64 (by omega) (by omega)]
          exact ⟨⟨k + 1, hx, ho, rfl, by omega, by simpa using hs⟩, by omega⟩
        · refine WRet.bool hx hK ?_
          rw [← hs, hr]
          simp
      · simp only [hge, go_sem]
        simp only [decide_eq_false_iff_not] at hge
        rw [List.drop_eq_nil_of_le (by omega)] at hs
        refine WRet.bool hx hK ?_
        simp_all
  all_goals refine WRet.bool .mk hK ?_
  all_goals simp only [decide_eq_true_eq, decide_eq_false_iff_not] at *
  all_goals simp [*]
end Go.Am
