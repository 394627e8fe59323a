/- A part of the proof that AliasThings and AliasMeets return true for every module: texts on an abstract reading of the code (AlF, AlSp, AlW2). -/
import Derived.Test.YtdmaniffgdpfeaaXAlW1
set_option linter.unusedVariables false
set_option linter.unusedSimpArgs false
set_option linter.unusedSectionVars false
set_option maxRecDepth 100000
set_option maxHeartbeats 1000000
set_option linter.unusedSimpArgs false
set_option linter.unusedVariables false
namespace Go.Am
open Go Go.Proofs
/-- what a right instruction's numbers are -/
structure InsB (p : MProc) (m : MMod) (i : MIns) : Prop where
  op : 1 ≤ i.op ∧ i.op ≤ 12
  d : i.op ≠ 6 → i.op ≠ 9 → i.op ≠ 10 → i.op ≠ 12 → 0 ≤ i.d ∧ i.d < p.regs
  a : rdA i.op = true → 0 ≤ i.a ∧ i.a < p.regs
  b : rdB i.op = true → 0 ≤ i.b ∧ i.b < p.regs
  frame : i.op = 7 → 0 ≤ i.obj ∧ i.obj < p.objects.length
  glob : i.op = 8 → 0 ≤ i.obj ∧ i.obj < m.globals.length
  size : i.op = 5 ∨ i.op = 6 → i.size = 1 ∨ i.size = 4
  off : i.op = 5 ∨ i.op = 6 ∨ i.op = 7 ∨ i.op = 8 → -32768 ≤ i.off ∧ i.off ≤ 32768
  args : i.op = 9 → ∀ r ∈ i.args, 0 ≤ r ∧ r < p.regs
  ret : i.op = 9 → i.d = -1 ∨ (0 ≤ i.d ∧ i.d < p.regs)
theorem regOk_t {n r : Int} (h : regOk n r true = true) : 0 ≤ r ∧ r < n := by
  have h' : (decide (r ≥ 0) && decide (r < n)) = true := h
  rw [Bool.and_eq_true] at h'
  exact ⟨of_decide_eq_true h'.1, of_decide_eq_true h'.2⟩
theorem ite_ff {c : Prop} [Decidable c] {x : Bool} (h : (if c then false else x) = true) : ¬ c ∧ x = true := by
  by_cases hc : c
  · rw [if_pos hc] at h; cases h
  · rw [if_neg hc] at h; exact ⟨hc, h⟩
theorem InsB.of {l : Lk} {i : MIns} (h : l.insOk i = true) : InsB l.p l.m i := by
  unfold Lk.insOk at h
  obtain ⟨h1, h⟩ := ite_ff h
  obtain ⟨h2, h⟩ := ite_ff h
  obtain ⟨h3, h⟩ := ite_ff h
  by_cases h9 : i.op = 9
  · rw [if_pos h9] at h
    simp only [Bool.and_eq_true] at h
    obtain ⟨⟨hc, h4⟩, h5⟩ := h
    unfold Lk.callOk at hc
    split at hc
    · simp only [Bool.and_eq_true, List.all_eq_true] at hc
      refine ⟨by omega, fun _ h _ _ => (h h9).elim, fun h => absurd h (by rw [h9]; decide), fun h => absurd h (by rw [h9]; decide), by omega, by omega, by omega, by omega, fun _ r hr => regOk_t (hc.2 r hr), fun _ => ?_⟩
      have := hc.1.2
      unfold regOk at this
      split at this
      · simp at this; omega
      · simp at this; omega
    · cases hc
  · rw [if_neg h9] at h
    obtain ⟨hd, h⟩ := ite_ff h
    obtain ⟨ha, h⟩ := ite_ff h
    obtain ⟨hb, h⟩ := ite_ff h
    simp only [Bool.not_eq_false] at hd ha hb
    refine ⟨by omega, fun a b c d => ?_, fun h => by rw [h] at ha; exact regOk_t ha, fun h => by rw [h] at hb; exact regOk_t hb, fun e => ?_, fun e => ?_, fun e => ?_, fun e => ?_, fun e => (h9 e).elim, fun e => (h9 e).elim⟩
    · have : dstB i.op = true := by simp [dstB, a, c, d]
      rw [this] at hd; exact regOk_t hd
    · simp [e] at h; omega
    · simp [e] at h; omega
    · rcases e with e | e <;> simp [e] at h <;> omega
    · rcases e with e | e | e | e <;> simp [e, offOk] at h <;> omega
structure EndB (p : MProc) (b : MBlk) : Prop where
  kind : b.kind = 1 ∨ b.kind = 2 ∨ b.kind = 3
  to1 : b.kind = 1 → 0 ≤ b.to ∧ b.to < p.blocks.length
  to2 : b.kind = 2 → (0 ≤ b.to ∧ b.to < p.blocks.length) ∧ (0 ≤ b.els ∧ b.els < p.blocks.length) ∧ 0 ≤ b.a ∧ b.a < p.regs
  jump : b.kind = 1 → b.a = -1 ∧ b.els = 0
  ret : b.kind = 3 → (b.a = -1 ∨ (0 ≤ b.a ∧ b.a < p.regs)) ∧ b.to = 0 ∧ b.els = 0
theorem EndB.of {l : Lk} {b : MBlk} (h : l.endOk b = true) : EndB l.p b := by
  unfold Lk.endOk at h
  split at h
  · rename_i e
    simp [Lk.block] at h
    exact ⟨.inl e, fun _ => by omega, by omega, fun _ => by omega, by omega⟩
  · split at h
    · rename_i e
      simp only [Bool.and_eq_true, Lk.block, decide_eq_true_eq] at h
      have := regOk_t h.2
      exact ⟨.inr (.inl e), by omega, fun _ => ⟨by omega, by omega, by omega⟩, by omega, by omega⟩
    · split at h
      · rename_i e
        simp only [Bool.and_eq_true, decide_eq_true_eq] at h
        refine ⟨.inr (.inr e), by omega, by omega, by omega, fun _ => ⟨?_, h.1.2, h.2⟩⟩
        have := h.1.1
        unfold regOk at this
        split at this <;> simp at this <;> omega
      · cases h
/-- a right procedure -/
structure ProcB (p : MProc) (m : MMod) : Prop where
  params : 0 ≤ p.params ∧ p.params ≤ 6 ∧ p.params ≤ p.regs
  regs : p.regs ≤ 8000
  objects : p.objects.length ≤ 400
  slots : p.objects.all slotOk = true
  blocks : 1 ≤ p.blocks.length ∧ p.blocks.length ≤ 4000
  all : insOf p.blocks ≤ 20000
  ins : ∀ b ∈ p.blocks, ∀ i ∈ b.ins, InsB p m i
  ends : ∀ b ∈ p.blocks, EndB p b
theorem ProcB.of {l : Lk} (h : l.procOk = true) : ProcB l.p l.m := by
  unfold Lk.procOk at h
  obtain ⟨h0, h⟩ := ite_ff h
  obtain ⟨h1, h⟩ := ite_ff h
  obtain ⟨h2, h⟩ := ite_ff h
  obtain ⟨h3, h⟩ := ite_ff h
  obtain ⟨h4, h⟩ := ite_ff h
  obtain ⟨h5, h⟩ := ite_ff h
  obtain ⟨h6, h⟩ := ite_ff h
  obtain ⟨h7, h⟩ := ite_ff h
  obtain ⟨h8, h⟩ := ite_ff h
  simp only [List.all_eq_true, Bool.and_eq_true] at h
  exact ⟨by omega, by omega, by omega, by simpa using h7, by omega, by omega, fun b hb i hi => InsB.of ((h b hb).1 i hi), fun b hb => EndB.of (h b hb).2⟩
structure ModB (m : MMod) : Prop where
  len : m.data.length = m.globals.length
  globals : m.globals.length ≤ 200
  slots : m.globals.all slotOk = true
  procs : 1 ≤ m.procs.length ∧ m.procs.length ≤ 200
  main : 0 ≤ m.main ∧ m.main < m.procs.length
  each : ∀ p ∈ m.procs, ProcB p m
theorem ModB.of {m : MMod} (h : m.ok = true) : ModB m := by
  unfold MMod.ok at h
  simp only [Bool.and_eq_true, List.all_eq_true] at h
  obtain ⟨⟨⟨h1, h2⟩, h3⟩, h4⟩ := h
  unfold MMod.headOk at h1
  obtain ⟨k0, h1⟩ := ite_ff h1
  obtain ⟨k1, h1⟩ := ite_ff h1
  obtain ⟨k2, h1⟩ := ite_ff h1
  obtain ⟨k3, h1⟩ := ite_ff h1
  obtain ⟨k4, h1⟩ := ite_ff h1
  obtain ⟨k5, h1⟩ := ite_ff h1
  obtain ⟨k6, h1⟩ := ite_ff h1
  exact ⟨by omega, by omega, by simpa using k2, by omega, by omega, fun p hp => ProcB.of (h4 p hp)⟩
/-- a right module, small enough, and one of its procedures -/
structure RightB (m : MMod) (n : Int) (p : MProc) : Prop where
  mod : ModB m
  proc : ProcB p m
  get : m.procs[n.toNat]? = some p
  nb : 0 ≤ n ∧ n < m.procs.length
  regs : p.regs ≤ 40
  few : m.few = true
  ok : m.ok = true
theorem RightB.of {m : MMod} {n : Int} (h : m.right n = true) : ∃ p, RightB m n p := by
  unfold MMod.right at h
  simp only [Bool.and_eq_true, decide_eq_true_eq] at h
  obtain ⟨⟨⟨⟨h1, h2⟩, h3⟩, h4⟩, hok⟩ := h
  split at h4
  · rename_i p hp
    simp only [decide_eq_true_eq] at h4
    have hm : p ∈ m.procs := List.mem_of_getElem? hp
    exact ⟨p, ModB.of hok, (ModB.of hok).each p hm, hp, by omega, h4, h1, hok⟩
  · cases h4
structure FewB (m : MMod) : Prop where
  procs : m.procs.length ≤ 6
  globals : m.globals.length ≤ 20
  data : m.data.length ≤ 20
  blocks : ∀ p ∈ m.procs, p.blocks.length ≤ 40 ∧ p.objects.length ≤ 20
  ins : ∀ p ∈ m.procs, ∀ b ∈ p.blocks, b.ins.length ≤ 60
  args : ∀ p ∈ m.procs, ∀ b ∈ p.blocks, ∀ i ∈ b.ins, i.args.length ≤ 12
theorem FewB.of {m : MMod} (h : m.few = true) : FewB m := by
  simp only [MMod.few, Bool.and_eq_true, decide_eq_true_eq, List.all_eq_true] at h
  obtain ⟨⟨⟨h1, h2⟩, h3⟩, h4⟩ := h
  have hp : ∀ p ∈ m.procs, p.blocks.length ≤ 40 ∧ p.objects.length ≤ 20 ∧ ∀ b ∈ p.blocks, b.few = true := fun p hp => by
    have := h4 p hp
    simp only [MProc.few, Bool.and_eq_true, decide_eq_true_eq, List.all_eq_true] at this
    exact ⟨this.1.1, this.1.2, this.2⟩
  have hb : ∀ p ∈ m.procs, ∀ b ∈ p.blocks, b.ins.length ≤ 60 ∧ ∀ i ∈ b.ins, i.few = true := fun p hpp b hb => by
    have := (hp p hpp).2.2 b hb
    simp only [MBlk.few, Bool.and_eq_true, decide_eq_true_eq, List.all_eq_true] at this
    exact this
  exact ⟨h1, h2, h3, fun p h => ⟨(hp p h).1, (hp p h).2.1⟩, fun p h b h' => (hb p h b h').1, fun p h b h' i hi => by
    have := (hb p h b h').2 i hi
    simp only [MIns.few, Bool.and_eq_true, decide_eq_true_eq] at this
    exact this.2⟩
end Go.Am

set_option maxRecDepth 100000
set_option maxHeartbeats 1000000
set_option linter.unusedSimpArgs false
set_option linter.unusedVariables false
namespace Go.Am
open Go Go.Proofs
structure Spot where
  thing : Int
  off : Int
  sets : Int
  is : Bool
def Spot.none : Spot := ⟨0, 0, 0, false⟩
def Spot.enc (s : Spot) : AV := .agg [I s.thing, I s.off, I s.sets, B s.is]
def spotsObj (sp : List Spot) : AObj := .arr 106 4 (sp.map Spot.enc)
theorem getD_eq {α} {l : List α} {i : Nat} {d : α} (hi : i < l.length) : l.getD i d = l[i] := by simp [List.getD, hi]
theorem spotL_thing {h : Heap} {K : AV → Heap → Prop} {sp : List Spot} {i : Nat} : aloadO Try.prog 3 h K 4 i 0 [0] (some (some (spotsObj sp))) = (i < sp.length ∧ K (I (sp.getD i .none).thing) h) := by
  by_cases hi : i < sp.length
  · have hg := getD_map Spot.enc sp hi
    simp only [spotsObj, hg, getD_eq hi, hi, Spot.enc, go_sem, Nat.reduceAdd]
  · simp [spotsObj, aloadO_arr, hi]
theorem spotS_thing {h : Heap} {K : AV → Heap → Prop} {sp : List Spot} {o i : Nat} {x : Int} : astoreO Try.prog 3 h (.val (.int .i64 x)) K o 4 i 0 [0] (some (some (spotsObj sp))) = (i < sp.length ∧ K (.tup []) (h.set o (some (spotsObj (sp.set i { sp.getD i .none with thing := x }))))) := by
  by_cases hi : i < sp.length
  · have hg := getD_map Spot.enc sp hi
    have e : ∀ s : Spot, (sp.map Spot.enc).set i s.enc = (sp.set i s).map Spot.enc := fun s => by rw [List.map_set]
    have e2 := e { sp.getD i .none with thing := x }
    simp only [Spot.enc, getD_eq hi] at e2
    simp only [spotsObj, hg, getD_eq hi, hi, Spot.enc, go_sem, Nat.reduceAdd]
    rw [e2]
  · simp [spotsObj, astoreO_arr, hi]
theorem spotL_off {h : Heap} {K : AV → Heap → Prop} {sp : List Spot} {i : Nat} : aloadO Try.prog 3 h K 4 i 1 [1] (some (some (spotsObj sp))) = (i < sp.length ∧ K (I (sp.getD i .none).off) h) := by
  by_cases hi : i < sp.length
  · have hg := getD_map Spot.enc sp hi
    simp only [spotsObj, hg, getD_eq hi, hi, Spot.enc, go_sem, Nat.reduceAdd]
  · simp [spotsObj, aloadO_arr, hi]
theorem spotS_off {h : Heap} {K : AV → Heap → Prop} {sp : List Spot} {o i : Nat} {x : Int} : astoreO Try.prog 3 h (.val (.int .i64 x)) K o 4 i 1 [1] (some (some (spotsObj sp))) = (i < sp.length ∧ K (.tup []) (h.set o (some (spotsObj (sp.set i { sp.getD i .none with off := x }))))) := by
  by_cases hi : i < sp.length
  · have hg := getD_map Spot.enc sp hi
    have e : ∀ s : Spot, (sp.map Spot.enc).set i s.enc = (sp.set i s).map Spot.enc := fun s => by rw [List.map_set]
    have e2 := e { sp.getD i .none with off := x }
    simp only [Spot.enc, getD_eq hi] at e2
    simp only [spotsObj, hg, getD_eq hi, hi, Spot.enc, go_sem, Nat.reduceAdd]
    rw [e2]
  · simp [spotsObj, astoreO_arr, hi]
theorem spotL_sets {h : Heap} {K : AV → Heap → Prop} {sp : List Spot} {i : Nat} : aloadO Try.prog 3 h K 4 i 2 [2] (some (some (spotsObj sp))) = (i < sp.length ∧ K (I (sp.getD i .none).sets) h) := by
  by_cases hi : i < sp.length
  · have hg := getD_map Spot.enc sp hi
    simp only [spotsObj, hg, getD_eq hi, hi, Spot.enc, go_sem, Nat.reduceAdd]
  · simp [spotsObj, aloadO_arr, hi]
theorem spotS_sets {h : Heap} {K : AV → Heap → Prop} {sp : List Spot} {o i : Nat} {x : Int} : astoreO Try.prog 3 h (.val (.int .i64 x)) K o 4 i 2 [2] (some (some (spotsObj sp))) = (i < sp.length ∧ K (.tup []) (h.set o (some (spotsObj (sp.set i { sp.getD i .none with sets := x }))))) := by
  by_cases hi : i < sp.length
  · have hg := getD_map Spot.enc sp hi
    have e : ∀ s : Spot, (sp.map Spot.enc).set i s.enc = (sp.set i s).map Spot.enc := fun s => by rw [List.map_set]
    have e2 := e { sp.getD i .none with sets := x }
    simp only [Spot.enc, getD_eq hi] at e2
    simp only [spotsObj, hg, getD_eq hi, hi, Spot.enc, go_sem, Nat.reduceAdd]
    rw [e2]
  · simp [spotsObj, astoreO_arr, hi]
theorem spotL_is {h : Heap} {K : AV → Heap → Prop} {sp : List Spot} {i : Nat} : aloadO Try.prog 4 h K 4 i 3 [3] (some (some (spotsObj sp))) = (i < sp.length ∧ K (B (sp.getD i .none).is) h) := by
  by_cases hi : i < sp.length
  · have hg := getD_map Spot.enc sp hi
    simp only [spotsObj, hg, getD_eq hi, hi, Spot.enc, go_sem, Nat.reduceAdd]
  · simp [spotsObj, aloadO_arr, hi]
theorem spotS_is {h : Heap} {K : AV → Heap → Prop} {sp : List Spot} {o i : Nat} {x : Bool} : astoreO Try.prog 4 h (.val (.bool x)) K o 4 i 3 [3] (some (some (spotsObj sp))) = (i < sp.length ∧ K (.tup []) (h.set o (some (spotsObj (sp.set i { sp.getD i .none with is := x }))))) := by
  by_cases hi : i < sp.length
  · have hg := getD_map Spot.enc sp hi
    have e : ∀ s : Spot, (sp.map Spot.enc).set i s.enc = (sp.set i s).map Spot.enc := fun s => by rw [List.map_set]
    have e2 := e { sp.getD i .none with is := x }
    simp only [Spot.enc, getD_eq hi] at e2
    simp only [spotsObj, hg, getD_eq hi, hi, Spot.enc, go_sem, Nat.reduceAdd]
    rw [e2]
  · simp [spotsObj, astoreO_arr, hi]
attribute [go_sem] spotL_thing spotS_thing spotL_off spotS_off spotL_sets spotS_sets spotL_is spotS_is
end Go.Am

set_option maxRecDepth 100000
set_option maxHeartbeats 1000000
set_option linter.unusedSimpArgs false
set_option linter.unusedVariables false
namespace Go.Am
open Go Go.Proofs
abbrev rowRef (W o : Nat) : AV := .sl o 1 0 W (some W)
abbrev viewObj (p : MProc) (T : Int) (a b c : AV) : AObj := .arr 101 10 [.agg [p.enc, I T, a, b, c]]
def regsObj (W : Nat) (ors : List Nat) : AObj := .arr 99 1 (ors.map (rowRef W))
theorem regsL {h : Heap} {K : AV → Heap → Prop} {W i : Nat} {ors : List Nat} : aloadO Try.prog 99 h K 1 i 0 [] (some (some (regsObj W ors))) = (i < ors.length ∧ K (rowRef W (ors.getD i 0)) h) := by
  by_cases hi : i < ors.length
  · have hg := getD_map (rowRef W) ors hi
    simp only [regsObj, hg, getD_eq hi, hi, go_sem]
  · simp [regsObj, aloadO_arr, hi]
attribute [go_sem] regsL
/-- where a view lies -/
structure VC where
  p : MProc
  T : Nat
  n : Nat
  W : Nat
  v : Nat
  orr : Nat
  oo : Nat
  os : Nat
  ors : List Nat
  cr : Option Nat
  cs : Option Nat
  ra : AV
abbrev VC.obj (c : VC) : AObj := viewObj c.p c.T c.ra (rowRef c.W c.oo) (.sl c.os 4 0 c.n c.cs)
abbrev VC.obj' (c : VC) : AObj := viewObj c.p c.T (.sl c.orr 1 0 c.n c.cr) (rowRef c.W c.oo) (.sl c.os 4 0 c.n c.cs)
structure VH (c : VC) (h : Heap) (st : VSt) (sp : List Spot) : Prop where
  hv : h[c.v]? = some (some c.obj)
  ra : c.n ≠ 0 → c.ra = .sl c.orr 1 0 c.n c.cr
  hr : c.n ≠ 0 → h[c.orr]? = some (some (regsObj c.W c.ors))
  ho : h[c.oo]? = some (some (rowObj st.out))
  hw : ∀ (i o : Nat), c.ors[i]? = some o → h[o]? = some (some (rowObj (st.regs.getD i [])))
  hs : h[c.os]? = some (some (spotsObj sp))
  len : c.ors.length = c.n
  nodup : (c.oo :: c.ors).Nodup
  wf : st.WF c.n c.W
  slen : sp.length = c.n
/-- rows and spots alone are others now -/
structure RU (c : VC) (h h' : Heap) : Prop where
  len : h'.length = h.length
  obj : ∀ o : Nat, h'[o]? = h[o]? ∨ ((o = c.oo ∨ o ∈ c.ors) ∧ ∃ ws, h'[o]? = some (some (rowObj ws))) ∨ (o = c.os ∧ ∃ sp, h'[o]? = some (some (spotsObj sp)))
theorem RU.refl {c h} : RU c h h := ⟨rfl, fun o => .inl rfl⟩
theorem RU.trans {c h h1 h2} (a : RU c h h1) (b : RU c h1 h2) : RU c h h2 := by
  refine ⟨b.len.trans a.len, fun o => ?_⟩
  rcases b.obj o with e | e | e
  · rw [e]; exact a.obj o
  · exact .inr (.inl e)
  · exact .inr (.inr e)
theorem rb_spots {n : Nat} {sp : List Spot} : RBo n (spotsObj sp) := by
  intro x hx
  induction sp with
  | nil => simp [flats] at hx
  | cons s sp ih =>
    simp only [List.map_cons, flats, List.mem_append] at hx
    rcases hx with hx | hx
    · simp only [Spot.enc, flat, flats, List.append_nil, List.nil_append, List.cons_append, List.mem_cons, List.not_mem_nil, or_false] at hx
      rcases hx with rfl | rfl | rfl | rfl <;> exact .val _
    · exact ih hx
theorem RU.hs {c h h' n} (r : RU c h h') : HS n h h' := by
  refine ⟨r.len, fun o ob ho => ?_⟩
  rcases r.obj o with e | ⟨-, ws, e⟩ | ⟨-, sp, e⟩
  · exact .inl (e ▸ ho)
  · rw [ho] at e; cases e; exact .inr rb_row
  · rw [ho] at e; cases e; exact .inr rb_spots
theorem RU.row {c h o} {ws : List W64} (ho : o = c.oo ∨ o ∈ c.ors) : RU c h (h.set o (some (rowObj ws))) := by
  refine ⟨by simp, fun o' => ?_⟩
  by_cases e : o = o'
  · subst e
    by_cases hl : o < h.length
    · exact .inr (.inl ⟨ho, ws, getS_eq hl⟩)
    · rw [List.set_eq_of_length_le (by omega)]; exact .inl rfl
  · exact .inl (getS_ne e)
theorem RU.spots {c h} {sp : List Spot} : RU c h (h.set c.os (some (spotsObj sp))) := by
  refine ⟨by simp, fun o' => ?_⟩
  by_cases e : c.os = o'
  · subst e
    by_cases hl : c.os < h.length
    · exact .inr (.inr ⟨rfl, sp, getS_eq hl⟩)
    · rw [List.set_eq_of_length_le (by omega)]; exact .inl rfl
  · exact .inl (getS_ne e)
theorem nodup_inj {a : Nat} : ∀ {l : List Nat} {i j : Nat}, l.Nodup → l[i]? = some a → l[j]? = some a → i = j
  | [], i, j, _, h, _ => by simp at h
  | x :: l, 0, 0, _, _, _ => rfl
  | x :: l, 0, j + 1, h, h1, h2 => by
    simp at h1 h2
    subst h1
    exact ((List.nodup_cons.1 h).1 (List.mem_of_getElem? h2)).elim
  | x :: l, i + 1, 0, h, h1, h2 => by
    simp at h1 h2
    subst h2
    exact ((List.nodup_cons.1 h).1 (List.mem_of_getElem? h1)).elim
  | x :: l, i + 1, j + 1, h, h1, h2 => by
    simp at h1 h2
    rw [nodup_inj (List.nodup_cons.1 h).2 h1 h2]
section
variable {c : VC} {h g : Heap} {st : VSt} {sp : List Spot}
theorem VH.hv' (H : VH c h st sp) {d : Nat} (hd : d < c.n) : h[c.v]? = some (some c.obj') := by
  have := H.hv
  rw [VC.obj, H.ra (by omega)] at this
  exact this
theorem VH.hr' (H : VH c h st sp) {d : Nat} (hd : d < c.n) : h[c.orr]? = some (some (regsObj c.W c.ors)) := H.hr (by omega)
theorem VH.app (H : VH c h st sp) : VH c (h ++ g) st sp := by
  have ap : ∀ {o : Nat} {x}, h[o]? = some x → (h ++ g)[o]? = some x := fun ho => by rw [List.getElem?_append_left (lt_of ho)]; exact ho
  exact { H with hv := ap H.hv, hr := fun hn => ap (H.hr hn), ho := ap H.ho, hs := ap H.hs, hw := fun i o e => ap (H.hw i o e) }
theorem VH.below (H : VH c h st sp) : c.v < h.length ∧ (c.n ≠ 0 → c.orr < h.length) ∧ c.oo < h.length ∧ c.os < h.length ∧ ∀ o ∈ c.ors, o < h.length := by
  refine ⟨lt_of H.hv, fun hn => lt_of (H.hr hn), lt_of H.ho, lt_of H.hs, fun o ho => ?_⟩
  obtain ⟨i, hi, rfl⟩ := List.mem_iff_getElem.1 ho
  exact lt_of (H.hw i _ (List.getElem?_eq_getElem hi))
/-- what a call did to a heap of which the last objects are this frame's -/
theorem VH.split {h' : Heap} {st' : VSt} {sp' : List Spot} (H : VH c h st sp) (H' : VH c h' st' sp') (r : RU c (h ++ g) h') : ∃ h1, h' = h1 ++ g ∧ RU c h h1 ∧ VH c h1 st' sp' := by
  obtain ⟨b1, b2, b3, b4, b5⟩ := H.below
  have hl := r.len
  rw [List.length_append] at hl
  have hd : h'.drop h.length = g := by
    apply List.ext_getElem?
    intro i
    rw [List.getElem?_drop]
    rcases r.obj (h.length + i) with e | ⟨e, -⟩ | ⟨e, -⟩
    · rw [e, List.getElem?_append_right (by omega)]; congr 1; omega
    · rcases e with e | e
      · omega
      · have := b5 _ e; omega
    · omega
  have ht : h' = h'.take h.length ++ g := by rw [← hd, List.take_append_drop]
  have hlt : (h'.take h.length).length = h.length := by rw [List.length_take]; omega
  have un : ∀ {o : Nat} {x}, h'[o]? = some x → o < h.length → (h'.take h.length)[o]? = some x := fun ho hlo => by rw [List.getElem?_take, if_pos hlo]; exact ho
  refine ⟨h'.take h.length, ht, ⟨hlt, fun o => ?_⟩, { H' with hv := un H'.hv b1, hr := fun hn => un (H'.hr hn) (b2 hn), ho := un H'.ho b3, hs := un H'.hs b4, hw := fun i o e => un (H'.hw i o e) (b5 o (List.mem_of_getElem? e)) }⟩
  by_cases ho : o < h.length
  · rw [List.getElem?_take, if_pos ho]
    rcases r.obj o with e | e | e
    · rw [e, List.getElem?_append_left ho]; exact .inl rfl
    · exact .inr (.inl e)
    · exact .inr (.inr e)
  · rw [List.getElem?_take, if_neg ho, List.getElem?_eq_none (by omega)]; exact .inl rfl
theorem row_ne {ws : List W64} {o o' : Nat} {ob : AObj} (h1 : h[o]? = some (some (rowObj ws))) (h2 : h[o']? = some (some ob)) (hne : ∀ e sz xs, ob = .arr e sz xs → e ≠ 180) : o ≠ o' := by
  rintro rfl
  rw [h1] at h2
  cases h2
  exact hne _ _ _ rfl rfl
theorem VH.getO (H : VH c h st sp) {d : Nat} (hd : d < c.n) : c.ors[d]? = some (c.ors.getD d 0) ∧ h[c.ors.getD d 0]? = some (some (rowObj (st.regs.getD d []))) := by
  have hd' : d < c.ors.length := by rw [H.len]; exact hd
  have e : c.ors[d]? = some (c.ors.getD d 0) := by rw [getD_eq hd', List.getElem?_eq_getElem hd']
  exact ⟨e, H.hw d _ e⟩
theorem VH.setOut (H : VH c h st sp) {row : List W64} (hl : row.length = c.W) : VH c (h.set c.oo (some (rowObj row))) { st with out := row } sp := by
  have hlo := lt_of H.ho
  have nd := List.nodup_cons.1 H.nodup
  refine { H with hv := ?_, hr := fun hn => ?_, ho := getS_eq hlo, hs := ?_, hw := fun i o e => ?_, wf := ⟨H.wf.regs, H.wf.row, hl⟩ }
  · rw [getS_ne (row_ne H.ho H.hv fun e sz xs h => by cases h; decide)]; exact H.hv
  · rw [getS_ne (row_ne H.ho (H.hr hn) fun e sz xs h => by cases h; decide)]; exact H.hr hn
  · rw [getS_ne (fun e' => nd.1 (by rw [e']; exact List.mem_of_getElem? e))]; exact H.hw i o e
  · rw [getS_ne (row_ne H.ho H.hs fun e sz xs h => by cases h; decide)]; exact H.hs
theorem VH.setReg (H : VH c h st sp) {d : Nat} (hd : d < c.n) {row : List W64} (hl : row.length = c.W) : VH c (h.set (c.ors.getD d 0) (some (rowObj row))) { st with regs := st.regs.set d row } sp := by
  obtain ⟨e1, e2⟩ := H.getO hd
  have hlo := lt_of e2
  have nd := List.nodup_cons.1 H.nodup
  have hd' : d < st.regs.length := by rw [H.wf.regs]; exact hd
  refine { H with hv := ?_, hr := fun hn => ?_, ho := ?_, hs := ?_, hw := fun i o e => ?_, wf := WF.set H.wf hl }
  · rw [getS_ne (row_ne e2 H.hv fun e sz xs h => by cases h; decide)]; exact H.hv
  · rw [getS_ne (row_ne e2 (H.hr hn) fun e sz xs h => by cases h; decide)]; exact H.hr hn
  · rw [getS_ne (fun e' => nd.1 (by rw [← e']; exact List.mem_of_getElem? e1))]; exact H.ho
  · rw [getD_set_regs hd']
    by_cases hi : i = d
    · subst hi
      rw [e1] at e; cases e
      rw [if_pos rfl]; exact getS_eq hlo
    · rw [if_neg hi, getS_ne]
      · exact H.hw i o e
      · intro h
        rw [← h] at e
        exact hi (nodup_inj nd.2 e e1)
  · rw [getS_ne (row_ne e2 H.hs fun e sz xs h => by cases h; decide)]; exact H.hs
theorem VH.setSpots (H : VH c h st sp) {sp' : List Spot} (hl : sp'.length = c.n) : VH c (h.set c.os (some (spotsObj sp'))) st sp' := by
  have hlo := lt_of H.hs
  have ne : ∀ {o : Nat} {ob : AObj}, h[o]? = some (some ob) → (∀ e sz xs, ob = .arr e sz xs → e ≠ 106) → c.os ≠ o := by
    intro o ob h1 h2 e
    subst e
    rw [H.hs] at h1
    cases h1
    exact h2 _ _ _ rfl rfl
  refine { H with hv := ?_, hr := fun hn => ?_, ho := ?_, hs := getS_eq hlo, hw := fun i o e => ?_, slen := hl }
  · rw [getS_ne (ne H.hv fun e sz xs h => by cases h; decide)]; exact H.hv
  · rw [getS_ne (ne (H.hr hn) fun e sz xs h => by cases h; decide)]; exact H.hr hn
  · rw [getS_ne (ne H.ho fun e sz xs h => by cases h; decide)]; exact H.ho
  · rw [getS_ne (ne (H.hw i o e) fun e sz xs h => by cases h; decide)]; exact H.hw i o e
end
theorem run121 (c : VC) (st : VSt) (sp : List Spot) (r : Nat) (hr : r < c.n) (hlim : c.W < 9223372036854775808) (h : Heap) (H : VH c h st sp) (K)
    (hK : K (B (decide (rowJoin st.out (st.regs.getD r []) ≠ st.out))) (h.set c.oo (some (rowObj (rowJoin st.out (st.regs.getD r [])))))) : RunsK Try.prog 121 [.ptr c.v 10 0 0 [], I r] h K := by
  refine RunsK.intro Try.func121 rfl (by decide) (by simp only [Try.f121, go_sem]; decide) ?_
  simp only [Try.f121]
  obtain ⟨e1, e2⟩ := H.getO hr
  have hlen : r < c.ors.length := by rw [H.len]; exact hr
  simp only [go_sem, Nat.reduceAdd, Nat.reduceMul, Nat.reduceEqDiff, Nat.reduceLeDiff, List.range_zero, List.drop_zero, List.nil_append, reduceIte]
  refine aw_drawn st121_1 mixed (by kernel_rfl) ?_
  simp only [H.hv' hr, H.hr' hr, bnd hr, hlen, toNatC, go_sem, Nat.reduceAdd, Nat.reduceMul, Nat.reduceEqDiff, Nat.reduceLeDiff, List.range_zero, List.drop_zero, List.nil_append, reduceIte]
  refine run64 c.oo (c.ors.getD r 0) c.W _ _ st.out (st.regs.getD r []) H.wf.out (WF.len H.wf hr) hlim h H.ho e2 _ ?_
  simp only [go_sem, Nat.reduceAdd, Nat.reduceMul, Nat.reduceEqDiff, Nat.reduceLeDiff, List.range_zero, List.drop_zero, List.nil_append, reduceIte]
  exact WRet.hs0 (.set _ _ .refl rb_row) hK
def thingOf (p : MProc) (i : MIns) : Int := if i.op = 8 then p.objects.length + i.obj else i.obj
theorem run122 (c : VC) (st : VSt) (sp : List Spot) (i : MIns) (h : Heap) (H : VH c h st sp) (hb : i.op = 8 → -1099511627776 ≤ i.obj ∧ i.obj ≤ 1099511627776) (ho : c.p.objects.length ≤ 1099511627776) (K)
    (hK : K (I (thingOf c.p i)) h) : RunsK Try.prog 122 [.ptr c.v 10 0 0 [], i.enc] h K := by
  refine RunsK.intro Try.func122 rfl (by decide) (by simp only [Try.f122, go_sem]; decide) ?_
  simp only [Try.f122]
  have hv := (H.app (g := [some (.arr 39 11 [i.enc])])).hv
  simp only [go_sem, Nat.reduceAdd, Nat.reduceMul, Nat.reduceEqDiff, Nat.reduceLeDiff, List.range_zero, List.drop_zero, List.nil_append, reduceIte]
  refine AIf_intro (fun hb8 => ?_) (fun hb8 => ?_)
  · simp only [decide_eq_true_eq] at hb8
    simp only [go_sem, Nat.reduceAdd, Nat.reduceMul, Nat.reduceEqDiff, Nat.reduceLeDiff, List.range_zero, List.drop_zero, List.nil_append, reduceIte]
    refine aw_drawn st122_2 mixed (by kernel_rfl) ?_
    simp only [hv, go_sem, Nat.reduceAdd, Nat.reduceMul, Nat.reduceEqDiff, Nat.reduceLeDiff, List.range_zero, List.drop_zero, List.nil_append, reduceIte]
    have := hb hb8
    rw [wrap_i64 (by omega) (by omega)]
    refine WRet.val .mk ?_
    rw [thingOf, if_pos hb8] at hK
    exact hK
  · simp only [decide_eq_false_iff_not] at hb8
    simp only [go_sem, Nat.reduceAdd, Nat.reduceMul, Nat.reduceEqDiff, Nat.reduceLeDiff, List.range_zero, List.drop_zero, List.nil_append, reduceIte]
    refine WRet.val .mk ?_
    rw [thingOf, if_neg hb8] at hK
    exact hK
/-- a spot, once an instruction sets its register -/
def spotStep (p : MProc) (s : Spot) (i : MIns) : Spot :=
  if i.op = 7 ∨ i.op = 8 then ⟨thingOf p i, i.off, s.sets + 1, true⟩ else ⟨s.thing, s.off, s.sets + 1, false⟩
def spStep (p : MProc) (sp : List Spot) (i : MIns) : List Spot := if i.dreg = -1 then sp else sp.set i.dreg.toNat (spotStep p (sp.getD i.dreg.toNat .none) i)
theorem RU.hsA {c : VC} {h h1 : Heap} {n : Nat} (r : RU c h h1) : HS n h h1 := r.hs
theorem getD_setS {sp : List Spot} {d : Nat} (hd : d < sp.length) {x : Spot} : (sp.set d x).getD d .none = x := by simp [List.getD, hd]
theorem run66 (c : VC) (st : VSt) (sp : List Spot) (i : MIns) (hi : i.Lens) (hd : i.dreg = -1 ∨ (0 ≤ i.dreg ∧ i.dreg < c.n)) (hsets : ∀ s ∈ sp, 0 ≤ s.sets ∧ s.sets < 1099511627776) (h : Heap) (H : VH c h st sp)
    (hb : i.op = 8 → -1099511627776 ≤ i.obj ∧ i.obj ≤ 1099511627776) (ho : c.p.objects.length ≤ 1099511627776) (K)
    (hK : ∀ h', VH c h' st (spStep c.p sp i) → RU c h h' → K (B false) h') : RunsK Try.prog 66 [.ptr c.v 10 0 0 [], i.enc] h K := by
  refine RunsK.intro Try.func66 rfl (by decide) (by simp only [Try.f66, go_sem]; decide) ?_
  simp only [Try.f66]
  simp only [go_sem, Nat.reduceAdd, Nat.reduceMul, Nat.reduceEqDiff, Nat.reduceLeDiff, List.range_zero, List.drop_zero, List.nil_append, reduceIte]
  obtain ⟨hh, hhd⟩ : ∃ hh, hh = h ++ [some (AObj.arr 39 11 [i.enc])] := ⟨_, rfl⟩
  have HH : VH c hh st sp := hhd ▸ H.app
  have hi0 : hh[h.length]? = some (some (AObj.arr 39 11 [i.enc])) := by rw [hhd]; simp
  rw [← hhd]
  have fin : ∀ h', VH c h' st (spStep c.p sp i) → RU c hh h' → WRet h K (B false) h' := by
    intro h' H' r
    subst hhd
    obtain ⟨h1, rfl, r1, H1⟩ := H.split H' r
    exact WRet.hs r1.hs (hK h1 H1 r1)
  refine run78 i _ _ ?_
  simp only [go_sem, Nat.reduceAdd, Nat.reduceMul, Nat.reduceEqDiff, Nat.reduceLeDiff, List.range_zero, List.drop_zero, List.nil_append, reduceIte]
  refine AIf_intro (fun hd1 => ?_) (fun hd1 => ?_)
  · have hd2 : i.dreg = -1 := by simpa using hd1
    simp only [hd1, go_sem, Nat.reduceAdd, Nat.reduceMul, Nat.reduceEqDiff, Nat.reduceLeDiff, List.range_zero, List.drop_zero, List.nil_append, reduceIte]
    exact fin hh (by rw [spStep, if_pos hd2]; exact HH) .refl
  · have hd2 : ¬ i.dreg = -1 := by simpa using hd1
    obtain ⟨k, hk⟩ : ∃ k : Nat, i.dreg = k := ⟨i.dreg.toNat, by omega⟩
    have hkn : k < c.n := by omega
    have hks : k < sp.length := by rw [HH.slen]; exact hkn
    have hos := lt_of HH.hs
    have nib : ∀ X, (hh.set c.os X)[h.length]? = some (some (AObj.arr 39 11 [i.enc])) := by
      intro X
      rw [getS_ne, hi0]
      rintro e
      rw [← e, HH.hs] at hi0
      cases hi0
    have hsk := hsets _ (List.getElem_mem hks)
    rw [← getD_eq (d := Spot.none) hks] at hsk
    have hspk : spStep c.p sp i = sp.set k (spotStep c.p (sp.getD k .none) i) := by rw [spStep, if_neg hd2, hk]; simp
    have hw : IntKind.i64.wrap ((sp.getD k .none).sets + 1) = (sp.getD k .none).sets + 1 := wrap_i64 (by omega) (by omega)
    simp only [hk, HH.hv' hkn, HH.hs, bnd hkn, hks, toNatC, hw, getS_eq hos, nib, List.length_set, getD_setS hks, List.set_set, go_sem, Nat.reduceAdd, Nat.reduceMul, Nat.reduceEqDiff, Nat.reduceLeDiff, List.range_zero, List.drop_zero, List.nil_append, reduceIte]
    have hlen2 : ∀ x : Spot, (sp.set k x).length = c.n := fun x => by rw [List.length_set]; exact HH.slen
    have hV : ∀ x : Spot, VH c (hh.set c.os (some (spotsObj (sp.set k x)))) st (sp.set k x) := fun x => HH.setSpots (hlen2 x)
    have hks2 : ∀ x : Spot, k < (sp.set k x).length := fun x => by rw [List.length_set]; exact hks
    have hlh : ∀ X, c.os < (hh.set c.os X).length := fun X => by rw [List.length_set]; exact hos
    by_cases h78 : i.op = 7 ∨ i.op = 8
    · have hres : ∀ x y : Int, x = thingOf c.p i → y = i.off → ∀ s, s = { thing := x, off := y, sets := (sp.getD k .none).sets + 1, is := true } → WRet h K (B false) (hh.set c.os (some (spotsObj (sp.set k s)))) := by
        rintro x y rfl rfl s rfl
        have e : sp.set k { thing := thingOf c.p i, off := i.off, sets := (sp.getD k .none).sets + 1, is := true } = spStep c.p sp i := by
          rw [hspk, spotStep, if_pos h78]
        rw [e]
        refine fin _ (e ▸ hV _) RU.spots
      rcases h78 with e7 | e8
      · have d7 : decide (i.op = 7) = true := by simp [e7]
        simp only [d7, HH.hs, hks, toNatC, getS_eq hos, nib, List.length_set, getD_setS hks, List.set_set, hlh, go_sem, Nat.reduceAdd, Nat.reduceMul, Nat.reduceEqDiff, Nat.reduceLeDiff, List.range_zero, List.drop_zero, List.nil_append, reduceIte]
        refine aw_drawn st66_7 mixed (by kernel_rfl) ?_
        simp only [d7, HH.hs, hks, toNatC, getS_eq hos, nib, List.length_set, getD_setS hks, List.set_set, hlh, go_sem, Nat.reduceAdd, Nat.reduceMul, Nat.reduceEqDiff, Nat.reduceLeDiff, List.range_zero, List.drop_zero, List.nil_append, reduceIte]
        refine run122 c st _ i _ (hV _) hb ho _ ?_
        simp only [d7, HH.hs, hks, toNatC, getS_eq hos, nib, List.length_set, getD_setS hks, List.set_set, hlh, go_sem, Nat.reduceAdd, Nat.reduceMul, Nat.reduceEqDiff, Nat.reduceLeDiff, List.range_zero, List.drop_zero, List.nil_append, reduceIte]
        exact hres _ _ rfl rfl _ rfl
      · have d7 : decide (i.op = 7) = false := by simp [e8]
        have d8 : decide (i.op = 8) = true := by simp [e8]
        simp only [d7, d8, HH.hs, hks, toNatC, getS_eq hos, nib, List.length_set, getD_setS hks, List.set_set, hlh, go_sem, Nat.reduceAdd, Nat.reduceMul, Nat.reduceEqDiff, Nat.reduceLeDiff, List.range_zero, List.drop_zero, List.nil_append, reduceIte]
        refine aw_drawn st66_7 mixed (by kernel_rfl) ?_
        simp only [d7, d8, HH.hs, hks, toNatC, getS_eq hos, nib, List.length_set, getD_setS hks, List.set_set, hlh, go_sem, Nat.reduceAdd, Nat.reduceMul, Nat.reduceEqDiff, Nat.reduceLeDiff, List.range_zero, List.drop_zero, List.nil_append, reduceIte]
        refine run122 c st _ i _ (hV _) hb ho _ ?_
        simp only [d7, d8, HH.hs, hks, toNatC, getS_eq hos, nib, List.length_set, getD_setS hks, List.set_set, hlh, go_sem, Nat.reduceAdd, Nat.reduceMul, Nat.reduceEqDiff, Nat.reduceLeDiff, List.range_zero, List.drop_zero, List.nil_append, reduceIte]
        exact hres _ _ rfl rfl _ rfl
    · have d7 : decide (i.op = 7) = false := by simp; omega
      have d8 : decide (i.op = 8) = false := by simp; omega
      simp only [d7, d8, HH.hs, hks, toNatC, getS_eq hos, nib, List.length_set, getD_setS hks, List.set_set, hlh, go_sem, Nat.reduceAdd, Nat.reduceMul, Nat.reduceEqDiff, Nat.reduceLeDiff, List.range_zero, List.drop_zero, List.nil_append, reduceIte]
      have e : sp.set k { thing := (sp.getD k .none).thing, off := (sp.getD k .none).off, sets := (sp.getD k .none).sets + 1, is := false } = spStep c.p sp i := by
        rw [hspk, spotStep, if_neg h78]
      have := fin (hh.set c.os (some (spotsObj (spStep c.p sp i)))) (e ▸ hV _) RU.spots
      rw [← e] at this
      exact this
end Go.Am
