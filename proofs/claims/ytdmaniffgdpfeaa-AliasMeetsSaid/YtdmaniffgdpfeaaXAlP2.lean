/- A part of the proof that AliasThings and AliasMeets return true for every module: texts on an abstract reading of the code (AlP2). -/
import Derived.Test.YtdmaniffgdpfeaaXAlR9
import Derived.Test.YtdmaniffgdpfeaaXAlP1
set_option linter.unusedVariables false
set_option linter.unusedSimpArgs false
set_option linter.unusedSectionVars false
set_option maxRecDepth 100000
set_option maxHeartbeats 1000000
set_option linter.unusedSimpArgs false
set_option linter.unusedVariables false
namespace Go.Am
open Go Go.Proofs
/-! ### the view's meet is the document's -/
theorem word_bits {x : W64} : x ≠ 0#64 ↔ ∃ i, i < 64 ∧ x.getLsbD i = true := by
  constructor
  · intro h
    refine Classical.byContradiction fun hc => h ?_
    apply BitVec.eq_of_getLsbD_eq
    intro i hi
    cases hx : x.getLsbD i
    · simp
    · exact (hc ⟨i, hi, hx⟩).elim
  · rintro ⟨i, -, h⟩ e
    rw [e] at h; simp at h
theorem meetsW_iff {a b : List W64} (hl : b.length = a.length) : meetsW a b = true ↔ ∃ t, has a t = true ∧ has b t = true := by
  unfold meetsW
  rw [List.any_eq_true]
  constructor
  · rintro ⟨⟨x, y⟩, hm, hd⟩
    simp only [decide_eq_true_eq] at hd
    obtain ⟨i, hi, hb⟩ := word_bits.1 hd
    obtain ⟨k, hk, he⟩ := List.getElem_of_mem hm
    rw [List.getElem_zip] at he
    have hka : k < a.length := by simp at hk; omega
    have hkb : k < b.length := by omega
    have e1 : a[k] = x := congrArg Prod.fst he
    have e2 : b[k] = y := congrArg Prod.snd he
    refine ⟨k * 64 + i, ?_, ?_⟩ <;> unfold has
    · rw [show (k * 64 + i) / 64 = k by omega, show (k * 64 + i) % 64 = i by omega, getD_eq hka, e1]
      rw [BitVec.getLsbD_and] at hb; simp at hb; exact hb.1
    · rw [show (k * 64 + i) / 64 = k by omega, show (k * 64 + i) % 64 = i by omega, getD_eq hkb, e2]
      rw [BitVec.getLsbD_and] at hb; simp at hb; exact hb.2
  · rintro ⟨t, h1, h2⟩
    unfold has at h1 h2
    have hka : t / 64 < a.length := by
      refine Classical.byContradiction fun hn => ?_
      rw [show a.getD (t / 64) 0 = 0 by simp [List.getD, List.getElem?_eq_none (Nat.le_of_not_lt hn)]] at h1
      simp at h1
    have hkb : t / 64 < b.length := by omega
    rw [getD_eq hka] at h1
    rw [getD_eq hkb] at h2
    refine ⟨(a[t / 64], b[t / 64]), ?_, ?_⟩
    · rw [List.mem_iff_getElem]
      exact ⟨t / 64, by simp; omega, by simp⟩
    · simp only [decide_eq_true_eq]
      exact word_bits.2 ⟨t % 64, Nat.mod_lt _ (by decide), by rw [BitVec.getLsbD_and, h1, h2]; rfl⟩
theorem bothB_iff {a b : List Bool} {n : Nat} : bothB a b n = true ↔ ∃ t, t < n ∧ a.getD t false = true ∧ b.getD t false = true := by
  simp only [bothB, List.any_eq_true, List.mem_range, Bool.and_eq_true]
theorem hits_over {x y : Int} {n m : Int} (hn : 0 < n) (hm : 0 < m) : (decide (x < y + m) && decide (y < x + n)) = hitsB x y n.toNat m.toNat := by
  rw [Bool.eq_iff_iff, hitsB_iff, Bool.and_eq_true, decide_eq_true_eq, decide_eq_true_eq]
  constructor
  · rintro ⟨h1, h2⟩
    by_cases h : x ≤ y
    · exact ⟨(y - x).toNat, by omega, 0, by omega, by omega⟩
    · exact ⟨0, by omega, (x - y).toNat, by omega, by omega⟩
  · rintro ⟨i, hi, j, hj, e⟩
    omega
theorem VDone.meet {m : MMod} {p : MProc} {k : Nat} {v : AView} {st : BSt} (h : VDone m p k v) (hs : BDone m p k st) (pb : ProcB p m) (hk : p.regs = k) (a b : MIns) (ha : InsB p m a) (hb : InsB p m b) : v.meet a b = meetR p st a b := by
  unfold AView.meet meetR
  rw [h.exact pb hk, h.exact pb hk]
  cases hma : isMem a with
  | false => simp
  | true =>
  cases hmb : isMem b with
  | false => simp
  | true =>
  have oa : a.op = 5 ∨ a.op = 6 := by simpa [isMem] using hma
  have ob : b.op = 5 ∨ b.op = 6 := by simpa [isMem] using hmb
  have ra := ha.a (by rcases oa with e | e <;> rw [e] <;> rfl)
  have rb := hb.a (by rcases ob with e | e <;> rw [e] <;> rfl)
  have sa := ha.size oa
  have sb := hb.size ob
  have hvl : v.st.regs.length = k := h.wf.regs
  have hbl : st.regs.length = k := hs.wf.regs
  obtain ⟨i, hi⟩ : ∃ i : Nat, a.a = i := ⟨a.a.toNat, by omega⟩
  obtain ⟨j, hj⟩ : ∃ i : Nat, b.a = i := ⟨b.a.toNat, by omega⟩
  have g1 : v.reg a.a = true := by unfold AView.reg; simp; omega
  have g2 : v.reg b.a = true := by unfold AView.reg; simp; omega
  rw [g1, g2, hits_over (by omega) (by omega), hi, hj, toNatC, toNatC]
  have hil : i < v.st.regs.length := by omega
  have hjl : j < v.st.regs.length := by omega
  have hw : meetsW (v.st.regs.getD i []) (v.st.regs.getD j []) = bothB (st.regs.getD i []) (st.regs.getD j []) st.out.length := by
    rw [Bool.eq_iff_iff, meetsW_iff (by rw [getD_eq hil, getD_eq hjl, h.wf.row _ (List.getElem_mem hil), h.wf.row _ (List.getElem_mem hjl)]), bothB_iff]
    constructor
    · rintro ⟨t, h1, h2⟩
      have e1 := (same_row h hs i t).symm.trans h1
      have e2 := (same_row h hs j t).symm.trans h2
      refine ⟨t, ?_, e1, e2⟩
      rw [hs.wf.out, ← hs.wf.row _ (List.getElem_mem (by omega : i < st.regs.length))]
      refine Classical.byContradiction fun hn => ?_
      rw [getD_eq (by omega : i < st.regs.length)] at e1
      rw [show (st.regs[i]'(by omega)).getD t false = false by simp [List.getD, List.getElem?_eq_none (Nat.le_of_not_lt hn)]] at e1
      cases e1
    · rintro ⟨t, -, h1, h2⟩
      exact ⟨t, (same_row h hs i t).trans h1, (same_row h hs j t).trans h2⟩
  rw [hw]
  simp
theorem meetR_comm (p : MProc) (st : BSt) (a b : MIns) : meetR p st a b = meetR p st b a := by
  have h1 : ∀ x y n, bothB x y n = bothB y x n := fun x y n => by unfold bothB; congr 1; funext t; exact Bool.and_comm _ _
  have h2 : ∀ x y n m, hitsB x y n m = hitsB y x m n := fun x y n m => by
    rw [Bool.eq_iff_iff, hitsB_iff, hitsB_iff]
    constructor <;> (rintro ⟨i, hi, j, hj, e⟩; exact ⟨j, hj, i, hi, e.symm⟩)
  unfold meetR
  rw [h1 (st.regs.getD a.a.toNat []), h2 ((exactR p a.a).off + a.off), Bool.and_comm (isMem a), Bool.or_comm (!(exactR p a.a).is)]
/-- a load or store meets itself, if its register may point at anything -/
theorem meet_self {m : MMod} {p : MProc} {k : Nat} {v : AView} {st : BSt} (h : VDone m p k v) (hs : BDone m p k st) (pb : ProcB p m) (hk : p.regs = k) (a : MIns) (ha : InsB p m a) (hma : isMem a = true) : v.meet a a = decide (0 < (if v.reg a.a then thingsI v.T (v.st.regs.getD a.a.toNat []) else []).length) := by
  have oa : a.op = 5 ∨ a.op = 6 := by simpa [isMem] using hma
  have ra := ha.a (by rcases oa with e | e <;> rw [e] <;> rfl)
  have sa := ha.size oa
  have hvl : v.st.regs.length = k := h.wf.regs
  have g1 : v.reg a.a = true := by unfold AView.reg; simp; omega
  obtain ⟨i, hi⟩ : ∃ i : Nat, a.a = i := ⟨a.a.toNat, by omega⟩
  have hil : i < v.st.regs.length := by omega
  unfold AView.meet
  rw [hma, g1, if_pos rfl, hi, toNatC]
  have e1 : (decide ((v.exact (i : Int)).off + a.off < (v.exact (i : Int)).off + a.off + a.size) && decide ((v.exact (i : Int)).off + a.off < (v.exact (i : Int)).off + a.off + a.size)) = true := by simp; omega
  rw [e1]
  simp only [Bool.true_and, Bool.or_true, Bool.and_true]
  rw [Bool.eq_iff_iff, meetsW_iff rfl, decide_eq_true_eq, List.length_pos_iff_exists_mem]
  constructor
  · rintro ⟨t, ht, -⟩
    refine ⟨t, ?_⟩
    simp only [thingsI, List.mem_map, List.mem_filter, List.mem_range]
    refine ⟨t, ⟨?_, ht⟩, rfl⟩
    have hb := (same_row h hs i t).symm.trans ht
    have hbl : i < st.regs.length := by rw [hs.wf.regs]; omega
    rw [h.hT, ← hs.wf.row _ (List.getElem_mem hbl)]
    refine Classical.byContradiction fun hn => ?_
    rw [getD_eq hbl, show (st.regs[i]).getD t false = false by simp [List.getD, List.getElem?_eq_none (Nat.le_of_not_lt hn)]] at hb
    cases hb
  · rintro ⟨x, hx⟩
    simp only [thingsI, List.mem_map, List.mem_filter, List.mem_range] at hx
    obtain ⟨t, ⟨-, ht⟩, -⟩ := hx
    exact ⟨t, ht, ht⟩
theorem exact_off {m : MMod} {p : MProc} (pb : ProcB p m) (r : Int) : -32768 ≤ (exactR p r).off ∧ (exactR p r).off ≤ 32768 := by
  unfold exactR
  split
  · exact ⟨by decide, by decide⟩
  · split
    · rename_i i hl
      split
      · rename_i h78
        have hm : i ∈ (p.blocks.flatMap fun b => b.ins).filter (fun i => decide (i.dreg = r)) := by rw [hl]; simp
        obtain ⟨b, hb, hi⟩ := List.mem_flatMap.1 (List.mem_filter.1 hm).1
        exact (pb.ins b hb i hi).off (by rcases h78 with e | e <;> simp [e])
      · exact ⟨by decide, by decide⟩
    · exact ⟨by decide, by decide⟩
end Go.Am
