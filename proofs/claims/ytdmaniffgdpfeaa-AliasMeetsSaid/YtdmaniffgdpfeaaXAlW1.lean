/- A part of the proof that AliasThings and AliasMeets return true for every module: texts on an abstract reading of the code (AmIr6, AmIr7, AmIr8, AmIr9, AmAcc, AlW1). -/
import Derived.Test.YtdmaniffgdpfeaaXAmIr5
import Derived.Test.YtdmaniffgdpfeaaXAmSt
import Derived.Test.YtdmaniffgdpfeaaXAmIr4
set_option linter.unusedVariables false
set_option linter.unusedSimpArgs false
set_option linter.unusedSectionVars false
set_option maxRecDepth 100000
set_option maxHeartbeats 1000000
set_option linter.unusedSimpArgs false
set_option linter.unusedVariables false
namespace Go.Am
open Go Go.Proofs
theorem mixed : Try.prog.follows .mixedOrders = true := by kernel_rfl
def slotOk (s : MSlot) : Bool := !(decide (s.size < 1) || decide (s.size > 32768) || (!decide (s.align = 1) && !decide (s.align = 4)))
theorem run119 (l : List MSlot) (hl : l.length < 9223372036854775808) (h : Heap) (K) (hK : K (B (l.all slotOk)) h) : RunsK Try.prog 119 [.il 4 (l.map MSlot.enc)] h K := by
  refine RunsK.intro Try.func119 rfl (by decide) (by simp only [Try.f119, go_sem]; decide) ?_
  simp only [Try.f119]
  simp only [go_sem]
  refine aLoop_intro [5, 6, 7] (fun vs hh => ∃ k : Nat, HExt h hh ∧ vs = [.il 4 (l.map MSlot.enc), I l.length, I k] ∧ k ≤ l.length ∧ (l.drop k).all slotOk = l.all slotOk)
    (fun vs _ => match vs with | [_, _, .val (.int _ k)] => l.length - k.toNat | _ => 0) ?_ ?_
  · simp only [go_sem]
    exact ⟨0, .refl, rfl, by omega, by simp⟩
  · rintro vs hh - ⟨k, hx, rfl, hk, hs⟩
    simp only [go_sem]
    refine AIf_intro (fun hlt => ?_) (fun hge => ?_)
    · simp only [decide_eq_true_eq] at hlt
      have hlt' : k < l.length := by omega
      simp only [go_sem, aindex_map, Int.toNat_natCast, getD_map MSlot.enc l hlt', MSlot.enc]
      refine ⟨⟨by omega, by omega⟩, ?_⟩
      repeat' (refine AIf_intro (fun hb => ?_) (fun hb => ?_) <;> simp only [hb, go_sem])
      all_goals rw [List.drop_eq_getElem_cons hlt', List.all_cons] at hs
      all_goals simp only [decide_eq_true_eq, decide_eq_false_iff_not, bne_iff_ne] at *
      all_goals first
        | (refine WRet.val hx.app ?_
           rwa [← hs, show slotOk l[k] = false by simp [slotOk]; omega] at hK)
        | (rw [wrap_i64 (by omega) (by omega)]
           refine ⟨⟨k + 1, hx.app, rfl, hlt', ?_⟩, by omega⟩
           rw [← hs, show slotOk l[k] = true by simp [slotOk]; omega, Bool.true_and])
    · simp only [hge, go_sem]
      simp only [decide_eq_false_iff_not] at hge
      refine WRet.val hx ?_
      rw [List.drop_eq_nil_of_le (by omega)] at hs
      rwa [← hs] at hK
def Lk.procOk (l : Lk) : Bool :=
  if l.p.params < 0 then false else if l.p.params > 6 then false else if l.p.regs < l.p.params then false else if l.p.regs > 8000 then false
  else if (l.p.objects.length : Int) > 400 then false else if (l.p.blocks.length : Int) < 1 then false else if (l.p.blocks.length : Int) > 4000 then false
  else if l.p.objects.all slotOk = false then false else if (insOf l.p.blocks : Int) > 20000 then false
  else l.p.blocks.all fun b => b.ins.all l.insOk && l.endOk b
theorem run173 (l : Lk) (hl : l.p.Lens) (hbl : l.p.blocks.length + insOf l.p.blocks < 9223372036854775808) (h : Heap) (K) (hK : K (B l.procOk) h) : RunsK Try.prog 173 [l.enc] h K := by
  have fin : ∀ g b, b = l.procOk → WRet h K (.val (.bool b)) (h ++ g) := fun g b e => WRet.bool .mk hK e
  refine RunsK.intro Try.func173 rfl (by decide) (by simp only [Try.f173, go_sem]; decide) ?_
  simp only [Try.f173]
  simp only [go_sem, Nat.reduceAdd, Nat.reduceEqDiff, reduceIte]
  refine aw_drawn st173_2 mixed (by kernel_rfl) ?_
  simp only [st173_2, go_sem, Nat.reduceAdd, Nat.reduceEqDiff, reduceIte]
  have hlo := hl.objects
  repeat' (first
    | (refine AIf_intro (fun hb => ?_) (fun hb => ?_) <;> simp only [hb, go_sem, Nat.reduceAdd, Nat.reduceEqDiff, reduceIte])
    | (refine run119 _ hlo _ _ ?_; simp only [go_sem, Nat.reduceAdd, Nat.reduceEqDiff, reduceIte])
    | (refine run111 _ hl hbl _ _ ?_; simp only [go_sem, Nat.reduceAdd, Nat.reduceEqDiff, reduceIte]))
  all_goals (try simp only [decide_eq_true_eq, decide_eq_false_iff_not] at *)
  all_goals (try rw [wrap_i64 (by omega) (by omega)] at *)
  all_goals first
    | (refine fin _ _ ?_; simp [Lk.procOk, *]; done)
    | skip
  · refine fin _ _ ?_
    have hb' : (20000 : Int) < insOf l.p.blocks := by omega
    simp [Lk.procOk, *]
  have hpo : l.procOk = l.p.blocks.all fun b => b.ins.all l.insOk && l.endOk b := by
    have hb' : ¬ (20000 : Int) < insOf l.p.blocks := by omega
    simp [Lk.procOk, *]
  have hlb := hl.blocks
  unfold Len at hlb
  refine aLoop_intro [1, 64, 65, 66] (fun vs hh => ∃ k : Nat, HExt h hh ∧ hh[h.length]? = some (some (.arr 234 10 [l.enc])) ∧ vs = [.ptr h.length 10 0 0 [], .il 5 (l.p.blocks.map MBlk.enc), I l.p.blocks.length, I k] ∧ k ≤ l.p.blocks.length ∧ ((l.p.blocks.drop k).all fun b => b.ins.all l.insOk && l.endOk b) = l.procOk)
    (fun vs _ => match vs with | [_, _, _, .val (.int _ k)] => l.p.blocks.length - k.toNat | _ => 0) ?_ ?_
  · simp only [go_sem]
    exact ⟨0, .mk, rfl, by omega, hpo.symm⟩
  · rintro vs hh - ⟨k, hx, ho, rfl, hk, hs⟩
    simp only [go_sem, ho]
    refine AIf_intro (fun hlt => ?_) (fun hge => ?_)
    · simp only [decide_eq_true_eq] at hlt
      have hlt' : k < l.p.blocks.length := by omega
      have hab : ABound k l.p.blocks.length := ⟨by omega, by omega⟩
      rw [List.drop_eq_getElem_cons hlt', List.all_cons] at hs
      have hlr := hl.each _ (List.getElem_mem hlt')
      have hgd := getD_map MBlk.enc l.p.blocks hlt'
      generalize l.p.blocks[k] = b at hs hlr hgd
      have hli := hlr.ins
      unfold Len at hli
      simp only [go_sem, hab, hgd, ho, Nat.reduceAdd]
      refine aLoop_intro [1, 5, 64, 65, 66, 71, 72, 73] (fun vs h2 => ∃ j : Nat, HExt (hh ++ [some (.arr 35 5 [b.enc])]) h2 ∧ vs = [.ptr h.length 10 0 0 [], .ptr hh.length 5 0 0 [], .il 5 (l.p.blocks.map MBlk.enc), I l.p.blocks.length, I k, .il 11 (b.ins.map MIns.enc), I b.ins.length, I j] ∧ j ≤ b.ins.length ∧ (b.ins.drop j).all l.insOk = b.ins.all l.insOk)
        (fun vs _ => match vs with | [_, _, _, _, _, _, _, .val (.int _ k)] => b.ins.length - k.toNat | _ => 0) ?_ ?_
      · simp only [go_sem]
        exact ⟨0, .refl, rfl, by omega, rfl⟩
      · rintro vs h2 - ⟨j, hx2, rfl, hj, hs2⟩
        have ho2 := hx2.get (HExt.get .mk ho)
        have ho3 := hx2.last
        simp only [go_sem, ho2, ho3]
        refine AIf_intro (fun hlt2 => ?_) (fun hge2 => ?_)
        · simp only [decide_eq_true_eq] at hlt2
          have hlt2' : j < b.ins.length := by omega
          have hab2 : ABound j b.ins.length := ⟨by omega, by omega⟩
          rw [List.drop_eq_getElem_cons hlt2', List.all_cons] at hs2
          have hls := hlr.each _ (List.getElem_mem hlt2')
          have hgd2 := getD_map MIns.enc b.ins hlt2'
          generalize b.ins[j] = i at hs2 hls hgd2
          have ho4 : (h2 ++ [some (AObj.arr 39 11 [i.enc])])[h.length]? = some (some (.arr 234 10 [l.enc])) := HExt.get .mk ho2
          simp only [go_sem, hab2, hgd2, ho2, ho3, ho4, Nat.reduceAdd]
          refine run204 l i hls _ _ ?_
          simp only [go_sem, Nat.reduceAdd]
          refine AIf_intro (fun hr => ?_) (fun hr => ?_) <;> simp only [hr, go_sem]
          · rw [hr] at hs2
            rw [wrap_i64 (by omega) (by omega)]
            exact ⟨⟨j + 1, hx2.app, rfl, by omega, by simpa using hs2⟩, by omega⟩
          · refine WRet.bool (hx.trans (.trans .mk (hx2.trans .mk))) hK ?_
            rw [← hs, ← hs2, hr]
            simp
        · simp only [hge2, go_sem]
          simp only [decide_eq_false_iff_not] at hge2
          rw [List.drop_eq_nil_of_le (by omega)] at hs2
          simp only [go_sem, ho2, ho3, Nat.reduceAdd]
          refine run205 l b _ _ ?_
          simp only [go_sem, Nat.reduceAdd]
          refine AIf_intro (fun hr => ?_) (fun hr => ?_) <;> simp only [hr, go_sem]
          · rw [hr, ← hs2] at hs
            rw [wrap_i64 (by omega) (by omega)]
            exact ⟨⟨k + 1, hx.trans (.trans .mk hx2), ho2, rfl, by omega, by simpa using hs⟩, by omega⟩
          · refine WRet.bool (hx.trans (.trans .mk hx2)) hK ?_
            rw [← hs, hr]
            simp
    · simp only [hge, go_sem]
      simp only [decide_eq_false_iff_not] at hge
      rw [List.drop_eq_nil_of_le (by omega)] at hs
      exact WRet.bool hx hK (by rw [← hs]; rfl)
end Go.Am

set_option maxRecDepth 100000
set_option maxHeartbeats 1000000
set_option linter.unusedSimpArgs false
set_option linter.unusedVariables false
namespace Go.Am
open Go Go.Proofs
def MMod.pok (m : MMod) (p : MProc) : Bool := Lk.procOk ⟨m, p⟩
theorem lk_fold {m : MMod} {p : MProc} : AV.agg [m.enc, p.enc] = Lk.enc ⟨m, p⟩ := nr rfl
theorem run120 (m : MMod) (hl : m.Lens) (hbl : ∀ p ∈ m.procs, p.blocks.length + insOf p.blocks < 9223372036854775808) (n : Nat) (hn : n < m.procs.length) (h : Heap) (K) (hK : K (I (if m.pok m.procs[n] then 0 else 3)) h) : RunsK Try.prog 120 [m.enc, I n] h K := by
  refine RunsK.intro Try.func120 rfl (by decide) (by simp only [Try.f120, go_sem]; decide) ?_
  simp only [Try.f120]
  have h1 : decide ((n : Int) < 0) = false := by simp
  have h2 : decide ((n : Int) ≥ m.procs.length) = false := by simp; omega
  have hab : ABound n m.procs.length := ⟨by omega, by omega⟩
  have hlq := hl.each _ (List.getElem_mem hn)
  have hbq := hbl _ (List.getElem_mem hn)
  have hgd := getD_map MProc.enc m.procs hn
  generalize m.procs[n] = p at hK hlq hbq hgd
  simp only [go_sem, h1, h2, Nat.reduceAdd, Nat.reduceEqDiff, reduceIte]
  refine aw_drawn st120_3 mixed (by kernel_rfl) ?_
  simp only [st120_3, go_sem, hab, hgd, lk_fold, Nat.reduceAdd, Nat.reduceEqDiff, reduceIte]
  refine run173 ⟨m, p⟩ hlq hbq _ _ ?_
  simp only [go_sem, Nat.reduceAdd, Nat.reduceEqDiff, reduceIte]
  refine AIf_intro (fun hb => ?_) (fun hb => ?_) <;> simp only [hb, go_sem, Nat.reduceAdd, Nat.reduceEqDiff, reduceIte]
  all_goals (refine WRet.val .mk ?_; simpa [MMod.pok, hb] using hK)
end Go.Am

set_option maxRecDepth 100000
set_option maxHeartbeats 1000000
set_option linter.unusedSimpArgs false
set_option linter.unusedVariables false
namespace Go.Am
open Go Go.Proofs
def MMod.mainOk (m : MMod) : Bool := match m.procs[m.main.toNat]? with
  | some p => decide (p.params = 0) && !p.void
  | none => false
def MMod.dataOk (m : MMod) : Bool := (m.data.zip m.globals).all fun x => decide ((x.1.length : Int) = x.2.size)
def MMod.headOk (m : MMod) : Bool :=
  if ¬ (m.data.length : Int) = m.globals.length then false else if (m.globals.length : Int) > 200 then false else if m.globals.all slotOk = false then false
  else if (m.procs.length : Int) < 1 then false else if (m.procs.length : Int) > 200 then false else if m.main < 0 then false else if m.main ≥ m.procs.length then false else true
def MMod.ok (m : MMod) : Bool := m.headOk && m.dataOk && m.mainOk && m.procs.all m.pok
theorem run61 (m : MMod) (hl : m.Lens) (hbl : ∀ p ∈ m.procs, p.blocks.length + insOf p.blocks < 9223372036854775808) (h : Heap) (K) (hK : K (I (if m.ok then 0 else 3)) h) : RunsK Try.prog 61 [m.enc] h K := by
  have fin : ∀ hh, HExt h hh → m.ok = false → WRet h K (.val (.int .i64 3)) hh := fun hh e e2 => WRet.val e (by rw [e2] at hK; exact hK)
  refine RunsK.intro Try.func61 rfl (by decide) (by simp only [Try.f61, go_sem]; decide) ?_
  simp only [Try.f61]
  simp only [go_sem, Nat.reduceAdd, Nat.reduceEqDiff, reduceIte]
  repeat' (first
    | (refine AIf_intro (fun hb => ?_) (fun hb => ?_) <;> simp only [hb, go_sem, Nat.reduceAdd, Nat.reduceEqDiff, reduceIte])
    | (refine run119 _ hl.globals _ _ ?_; simp only [go_sem, Nat.reduceAdd, Nat.reduceEqDiff, reduceIte]))
  all_goals (try simp only [decide_eq_true_eq, decide_eq_false_iff_not] at *)
  all_goals first
    | (refine fin _ .mk ?_; simp [MMod.ok, MMod.headOk, *]; done)
    | skip
  rename_i hc2 hc3 hc4 hc5 hc6 hc7
  have hhead : m.headOk = true := by simp [MMod.headOk, *]
  have hmm : m.main.toNat < m.procs.length := by omega
  have hld := hl.data
  have hlg := hl.globals
  have hlp := hl.procs
  unfold Len at hld hlg hlp
  refine aLoop_intro [1, 52, 53, 54] (fun vs hh => ∃ k : Nat, hh = h ++ [some (.arr 26 4 [m.enc])] ∧ vs = [.ptr h.length 4 0 0 [], .il 1 (m.data.map bytesAV), I m.data.length, I k] ∧ k ≤ m.data.length ∧ (((m.data.drop k).zip (m.globals.drop k)).all fun x => decide ((x.1.length : Int) = x.2.size)) = m.dataOk)
    (fun vs _ => match vs with | [_, _, _, .val (.int _ k)] => m.data.length - k.toNat | _ => 0) ?_ ?_
  · simp only [go_sem]
    exact ⟨0, rfl, by omega, rfl⟩
  · rintro vs hh - ⟨k, rfl, rfl, hk, hs⟩
    simp only [go_sem]
    refine AIf_intro (fun hlt => ?_) (fun hge => ?_)
    · simp only [decide_eq_true_eq] at hlt
      have hlt1 : k < m.data.length := by omega
      have hlt2 : k < m.globals.length := by omega
      have hab1 : ABound k m.data.length := ⟨by omega, by omega⟩
      have hab2 : ABound k m.globals.length := ⟨by omega, by omega⟩
      rw [List.drop_eq_getElem_cons hlt1, List.drop_eq_getElem_cons hlt2, List.zip_cons_cons, List.all_cons] at hs
      have hgd1 := getD_map bytesAV m.data hlt1
      have hgd2 := getD_map MSlot.enc m.globals hlt2
      generalize m.data[k] = d at hs hgd1
      generalize m.globals[k] = g at hs hgd2
      simp only [go_sem, hab1, hab2, hgd1, hgd2, bytesAV, Nat.reduceAdd]
      refine AIf_intro (fun hr => ?_) (fun hr => ?_) <;> simp only [hr, go_sem]
      · rw [wrap_i64 (by omega) (by omega)]
        refine ⟨⟨k + 1, rfl, by omega, ?_⟩, by omega⟩
        rw [← hs]
        simp only [hr, Bool.true_and]
      · refine fin _ .mk ?_
        have : m.dataOk = false := by rw [← hs]; simp only [hr, Bool.false_and]
        simp [MMod.ok, this]
    · simp only [hge, go_sem]
      simp only [decide_eq_false_iff_not] at hge
      rw [List.drop_eq_nil_of_le (by omega)] at hs
      have hdok : m.dataOk = true := by rw [← hs]; rfl
      have hab : ABound m.main m.procs.length := ⟨by omega, by omega⟩
      have hgd := getD_map MProc.enc m.procs hmm
      have hmo : m.mainOk = (decide (m.procs[m.main.toNat].params = 0) && !m.procs[m.main.toNat].void) := by
        rw [MMod.mainOk, List.getElem?_eq_getElem hmm]
      generalize m.procs[m.main.toNat] = p at hgd hmo
      simp only [go_sem, hab, hgd, Nat.reduceAdd]
      repeat' (refine AIf_intro (fun hb => ?_) (fun hb => ?_) <;> simp only [hb, go_sem, Nat.reduceAdd, Nat.reduceEqDiff, reduceIte])
      · refine fin _ .mk ?_
        simp only [decide_eq_true_eq] at *
        have : m.mainOk = false := by rw [hmo]; simp [*]
        simp [MMod.ok, this]
      · rename_i hpar
        have hvd := hb
        have hmk : m.mainOk = true := by rw [hmo, hpar, hvd]; rfl
        have hok : m.ok = m.procs.all m.pok := by rw [MMod.ok, hhead, hdok, hmk]; simp
        refine aLoop_intro [1, 84, 85] (fun vs hh => ∃ k : Nat, HExt h hh ∧ hh[h.length]? = some (some (.arr 26 4 [m.enc])) ∧ vs = [.ptr h.length 4 0 0 [], I m.procs.length, I k] ∧ k ≤ m.procs.length ∧ (m.procs.drop k).all m.pok = m.ok)
          (fun vs _ => match vs with | [_, _, .val (.int _ k)] => m.procs.length - k.toNat | _ => 0) ?_ ?_
        · simp only [go_sem]
          exact ⟨0, .mk, rfl, by omega, hok.symm⟩
        · rintro vs hh - ⟨k, hx, ho, rfl, hk, hs⟩
          simp only [go_sem, ho]
          refine AIf_intro (fun hlt => ?_) (fun hge => ?_)
          · simp only [decide_eq_true_eq] at hlt
            have hlt' : k < m.procs.length := by omega
            rw [List.drop_eq_getElem_cons hlt', List.all_cons] at hs
            simp only [go_sem, ho, Nat.reduceAdd]
            refine run120 m hl hbl k hlt' _ _ ?_
            cases hpk : m.pok m.procs[k]
            · simp only [go_sem, Int.reduceEq, decide_false, decide_true, reduceIte, Bool.false_eq_true]
              refine fin _ hx ?_
              rw [← hs, hpk]; rfl
            · simp only [go_sem, Int.reduceEq, decide_false, decide_true, reduceIte]
              rw [wrap_i64 (by omega) (by omega)]
              refine ⟨⟨k + 1, hx, ho, rfl, by omega, ?_⟩, by omega⟩
              rw [← hs, hpk]; rfl
          · simp only [hge, go_sem]
            simp only [decide_eq_false_iff_not] at hge
            rw [List.drop_eq_nil_of_le (by omega)] at hs
            refine WRet.val hx ?_
            rw [← hs] at hK
            exact hK
      · refine fin _ .mk ?_
        simp only [decide_eq_false_iff_not] at *
        have : m.mainOk = false := by rw [hmo]; simp [*]
        simp [MMod.ok, this]
end Go.Am

set_option maxRecDepth 100000
set_option maxHeartbeats 1000000
set_option linter.unusedSimpArgs false
set_option linter.unusedVariables false
namespace Go.Am
open Go Go.Proofs
def MMod.right (m : MMod) (n : Int) : Bool := m.few && decide (n ≥ 0) && decide (n < m.procs.length) && (match m.procs[n.toNat]? with
  | some p => decide (p.regs ≤ 40)
  | none => false) && m.ok
theorem few_ins {p : MProc} (h : p.few = true) : p.blocks.length ≤ 40 ∧ insOf p.blocks ≤ 60 * p.blocks.length := by
  simp only [MProc.few, Bool.and_eq_true, decide_eq_true_eq, List.all_eq_true] at h
  refine ⟨h.1.1, ?_⟩
  have h2 := h.2
  clear h
  generalize p.blocks = l at h2
  induction l with
  | nil => simp [insOf]
  | cons b l ih =>
    have h3 := h2 b (by simp)
    simp only [MBlk.few, Bool.and_eq_true, decide_eq_true_eq] at h3
    have := ih fun x hx => h2 x (by simp [hx])
    rw [insOf_cons, List.length_cons]
    omega
theorem run15 (m : MMod) (hl : m.Lens) (n : Int) (h : Heap) (K) (hK : K (B (m.right n)) h) : RunsK Try.prog 15 [m.enc, I n] h K := by
  refine RunsK.intro Try.func15 rfl (by decide) (by simp only [Try.f15, go_sem]; decide) ?_
  simp only [Try.f15]
  simp only [go_sem, Nat.reduceAdd, Nat.reduceEqDiff, reduceIte]
  refine run60 m hl _ _ ?_
  simp only [go_sem, Nat.reduceAdd, Nat.reduceEqDiff, reduceIte]
  refine AIf_intro (fun hf => ?_) (fun hf => ?_) <;> simp only [hf, go_sem, Nat.reduceAdd, Nat.reduceEqDiff, reduceIte]
  rotate_left
  · refine WRet.bool .mk hK ?_
    simp [MMod.right, hf]
  refine AIf_intro (fun h1 => ?_) (fun h1 => ?_) <;> simp only [h1, go_sem, Nat.reduceAdd, Nat.reduceEqDiff, reduceIte]
  rotate_left
  · refine WRet.bool .mk hK ?_
    simp only [decide_eq_false_iff_not] at h1
    simp [MMod.right, h1]
  refine AIf_intro (fun h2 => ?_) (fun h2 => ?_) <;> simp only [h2, go_sem, Nat.reduceAdd, Nat.reduceEqDiff, reduceIte]
  rotate_left
  · refine WRet.bool .mk hK ?_
    simp only [decide_eq_false_iff_not] at h2
    simp [MMod.right, h2]
  simp only [decide_eq_true_eq] at h1 h2
  have hn : n.toNat < m.procs.length := by omega
  have hab : ABound n m.procs.length := ⟨by omega, by omega⟩
  have hgd := getD_map MProc.enc m.procs hn
  have hge := List.getElem?_eq_getElem hn
  have hbl : ∀ p ∈ m.procs, p.blocks.length + insOf p.blocks < 9223372036854775808 := by
    intro p hp
    simp only [MMod.few, Bool.and_eq_true, List.all_eq_true] at hf
    have := few_ins (hf.2 p hp)
    omega
  generalize m.procs[n.toNat] = p at hgd hge
  simp only [go_sem, hab, hgd, Nat.reduceAdd, Nat.reduceEqDiff, reduceIte]
  refine AIf_intro (fun h3 => ?_) (fun h3 => ?_) <;> simp only [h3, go_sem, Nat.reduceAdd, Nat.reduceEqDiff, reduceIte]
  rotate_left
  · refine WRet.bool .mk hK ?_
    simp only [decide_eq_false_iff_not] at h3
    rw [MMod.right, hge]
    simp [h3]
  refine run61 m hl hbl _ _ ?_
  simp only [decide_eq_true_eq] at h3
  have hr : m.right n = m.ok := by
    rw [MMod.right, hge, hf, decide_eq_true h1, decide_eq_true h2]
    simp [h3]
  rw [hr] at hK
  cases hok : m.ok <;> simp only [hok, go_sem, Nat.reduceAdd, Nat.reduceEqDiff, reduceIte, Bool.false_eq_true, Int.reduceEq, decide_true, decide_false] at hK ⊢
  all_goals exact WRet.bool .mk hK rfl
end Go.Am

set_option maxRecDepth 100000
set_option maxHeartbeats 1000000
set_option linter.unusedSimpArgs false
set_option linter.unusedVariables false
namespace Go.Am
open Go Go.Proofs
theorem getS_eq {h : Heap} {o : Nat} {x} (hl : o < h.length) : (h.set o x)[o]? = some x := by simp [hl]
theorem getS_ne {h : Heap} {o o' : Nat} {x} (hne : o ≠ o') : (h.set o x)[o']? = h[o']? := by rw [List.getElem?_set, if_neg hne]
theorem lt_of {h : Heap} {o : Nat} {x} (ho : h[o]? = some x) : o < h.length := (List.getElem?_eq_some_iff.1 ho).1
/-- a heap of which the first objects are as they were -/
def HB (h hh : Heap) : Prop := h.length ≤ hh.length ∧ ∀ o : Nat, o < h.length → hh[o]? = h[o]?
theorem HB.refl {h} : HB h h := ⟨Nat.le_refl _, fun _ _ => rfl⟩
theorem HB.trans {a b c} (x : HB a b) (y : HB b c) : HB a c := ⟨Nat.le_trans x.1 y.1, fun o ho => (y.2 o (Nat.lt_of_lt_of_le ho x.1)).trans (x.2 o ho)⟩
theorem HB.app {h hh g} (x : HB h hh) : HB h (hh ++ g) := ⟨by have := x.1; simp; omega, fun o ho => by rw [List.getElem?_append_left (Nat.lt_of_lt_of_le ho x.1)]; exact x.2 o ho⟩
theorem HB.set {h hh o x} (b : HB h hh) (ho : h.length ≤ o) : HB h (hh.set o x) := ⟨by simpa using b.1, fun o' h' => by rw [getS_ne (by omega)]; exact b.2 o' h'⟩
theorem HB.ext {h hh} (b : HB h hh) : HExt h hh := by
  refine ⟨hh.drop h.length, ?_⟩
  have : hh.take h.length = h := by
    apply List.ext_getElem?
    intro i
    rw [List.getElem?_take]
    split
    · rename_i hi; exact b.2 i hi
    · rename_i hi; rw [List.getElem?_eq_none (by omega)]
  conv => lhs; rw [← List.take_append_drop h.length hh, this]
theorem getApp {h g : Heap} {o : Nat} {x} (ho : h[o]? = some x) : (h ++ g)[o]? = some x := by rw [List.getElem?_append_left (lt_of ho)]; exact ho
/-- a list that grows by append, made in this frame -/
structure Acc (h0 : Heap) (e sz : Nat) (hh : Heap) (a : AV) (xs : List AV) : Prop where
  hb : HB h0 hh
  ok : (xs = [] ∧ a = .val (.slice none 0 0)) ∨ (xs ≠ [] ∧ ∃ o, a = .sl o sz 0 xs.length none ∧ hh[o]? = some (some (.arr e sz xs)) ∧ h0.length ≤ o)
  each : ∀ x ∈ xs, (flat x).length = sz ∧ storable x = true
theorem Acc.nil {h0 hh e sz} (b : HB h0 hh) : Acc h0 e sz hh (.val (.slice none 0 0)) [] := ⟨b, .inl ⟨rfl, rfl⟩, by simp⟩
theorem Acc.app {h0 hh e sz a xs} (A : Acc h0 e sz hh a xs) (g : Heap) : Acc h0 e sz (hh ++ g) a xs :=
  ⟨A.hb.app, A.ok.imp id fun ⟨h, o, h1, h2, h3⟩ => ⟨h, o, h1, getApp h2, h3⟩, A.each⟩
theorem Acc.get {h0 hh e sz a xs} (A : Acc h0 e sz hh a xs) {o : Nat} (ho : o < h0.length) : hh[o]? = h0[o]? := A.hb.2 o ho
theorem Acc.push {P : Program} {h0 hh g : Heap} {e sz : Nat} {a x : AV} {xs : List AV} {K : AV → Heap → Prop} (A : Acc h0 e sz hh a xs) (hsz : szOf P e = sz) (hx : (flat x).length = sz ∧ storable x = true) (room : ARoom (xs.length + 1) (P.bytesOf e))
    (hk : ∀ a' h', Acc h0 e sz h' a' (xs ++ [x]) → K a' h') : aappGo P e (hh ++ g) K [x] a := by
  have each : ∀ y ∈ xs ++ [x], (flat y).length = sz ∧ storable y = true := fun y hy => by
    rcases List.mem_append.1 hy with hy | hy
    · exact A.each y hy
    · simp at hy; subst hy; exact hx
  have hl := A.hb.1
  rcases A.ok with ⟨rfl, rfl⟩ | ⟨hne, o, rfl, ho, hge⟩
  · rw [aappGo_nil]
    refine ⟨room, ?_⟩
    rw [AEmp_cons, tK_eq, hsz]
    refine hk _ _ ⟨A.hb.app.app, .inr ⟨by simp, _, rfl, by simp, by simp; omega⟩, each⟩
  · have ho1 : (hh ++ g)[o]? = some (some (.arr e sz xs)) := getApp ho
    have hlt := lt_of ho
    rw [aappGo_sl, elems_sl, ho1, elemsO_arr, hsz, if_pos ⟨rfl, rfl, by omega⟩, aappS_some]
    refine ⟨⟨rfl, room⟩, ?_⟩
    have e1 : ((xs.drop 0).take xs.length) = xs := by simp
    rw [e1, hsz]
    refine hk _ _ ⟨(HB.set A.hb.app hge).app, .inr ⟨by simp, (hh ++ g).length, by simp, ?_, by simp; omega⟩, each⟩
    rw [List.getElem?_append_right (by rw [List.length_set]; exact Nat.le_refl _), List.length_set, Nat.sub_self]
    rfl
theorem Acc.frz {h0 hh e sz a xs} (A : Acc h0 e sz hh a xs) {n : Nat} (hn : n ≤ h0.length) (hr : ∀ x ∈ xs, RB n x) : Frz n hh a (.il sz xs) := by
  rcases A.ok with ⟨rfl, rfl⟩ | ⟨hne, o, rfl, ho, hge⟩
  · exact .nil sz
  · refine .sl o sz 0 xs.length none e xs xs ho (by omega) (by simp) rfl A.each fun i x y hx hy => ?_
    rw [Nat.zero_add] at hx
    rw [hx] at hy; cases hy
    exact .pure _ (hr x (List.mem_of_getElem? hx))
theorem Acc.notTup {h0 hh e sz a xs} (A : Acc h0 e sz hh a xs) : ∀ zs, a ≠ .tup zs := by
  rcases A.ok with ⟨-, rfl⟩ | ⟨-, o, rfl, -⟩ <;> simp
/-- the list is what comes back -/
theorem Acc.ret {h h0 hh e sz a xs} {K : AV → Heap → Prop} (A : Acc h0 e sz hh a xs) (b : HB h h0) (hr : ∀ x ∈ xs, RB h.length x) (hk : K (.il sz xs) h) : WRet h K a hh :=
  WRet.of (b.trans A.hb).ext (A.frz b.1 hr) A.notTup hk
end Go.Am

set_option maxRecDepth 100000
set_option maxHeartbeats 1000000
set_option linter.unusedSimpArgs false
set_option linter.unusedVariables false
namespace Go.Am
open Go Go.Proofs
abbrev U64 (w : W64) : AV := .val (.int .u64 w.toNat)
def rowObj (ws : List W64) : AObj := .arr 180 1 (ws.map U64)
theorem wrap_u64 {n : Int} (h0 : 0 ≤ n) (h : n < 18446744073709551616) : IntKind.u64.wrap n = n := by
  simp only [IntKind.wrap, IntKind.bits, IntKind.signed, Bool.false_and]
  have e : ((2 ^ 64 : Nat) : Int) = 18446744073709551616 := by decide
  simp only [Bool.false_eq_true, if_false]
  first | omega | (simp; omega) | (simp; done)
theorem bv_u64 (a : W64) : BitVec.ofInt 64 (a.toNat : Int) = a := by
  apply BitVec.eq_of_toNat_eq
  simp [BitVec.toNat_ofInt]
theorem wrap_bv (a : W64) : IntKind.u64.wrap (a.toNat : Int) = a.toNat := by
  have := a.isLt
  exact wrap_u64 (by omega) (by omega)
section
variable {P : Program} {t : TypeId} {h : Heap} {K : AV → Heap → Prop} {k : IntKind} (a b : W64) {n : Nat}
theorem ab_or : abin P t .or h K (.val (.int .u64 a.toNat)) (.val (.int .u64 b.toNat)) = K (U64 (a ||| b)) h := by
  rw [abin_or]
  have e : ((BitVec.ofInt IntKind.u64.bits (a.toNat : Int) ||| BitVec.ofInt IntKind.u64.bits (b.toNat : Int)).toNat : Int) = ((a ||| b).toNat : Int) := by
    show ((BitVec.ofInt 64 (a.toNat : Int) ||| BitVec.ofInt 64 (b.toNat : Int)).toNat : Int) = ((a ||| b).toNat : Int)
    rw [bv_u64, bv_u64]
  rw [e, wrap_bv]
theorem ab_and : abin P t .and h K (.val (.int .u64 a.toNat)) (.val (.int .u64 b.toNat)) = K (U64 (a &&& b)) h := by
  rw [abin_and]
  have e : ((BitVec.ofInt IntKind.u64.bits (a.toNat : Int) &&& BitVec.ofInt IntKind.u64.bits (b.toNat : Int)).toNat : Int) = ((a &&& b).toNat : Int) := by
    show ((BitVec.ofInt 64 (a.toNat : Int) &&& BitVec.ofInt 64 (b.toNat : Int)).toNat : Int) = ((a &&& b).toNat : Int)
    rw [bv_u64, bv_u64]
  rw [e, wrap_bv]
theorem ab_and1 : abin P t .and h K (.val (.int .u64 a.toNat)) (.val (.int .u64 1)) = K (U64 (a &&& 1#64)) h := ab_and a 1#64
theorem u64_eq : ((a.toNat : Int) = b.toNat) = (a = b) := by
  rw [eq_iff_iff]
  constructor
  · intro h; exact BitVec.eq_of_toNat_eq (by omega)
  · intro h; rw [h]
theorem ab_eql : abin P t .eql h K (.val (.int .u64 a.toNat)) (.val (.int .u64 b.toNat)) = K (B (decide (a = b))) h := by
  rw [abin_eql, beq_dec]; simp only [u64_eq]
theorem ab_neq : abin P t .neq h K (.val (.int .u64 a.toNat)) (.val (.int .u64 b.toNat)) = K (B (decide (a ≠ b))) h := by
  rw [abin_neq, bne_dec]; simp only [u64_eq, decide_not]
theorem ab_eql1 : abin P t .eql h K (.val (.int .u64 a.toNat)) (.val (.int .u64 1)) = K (B (decide (a = 1#64))) h := ab_eql a 1#64
theorem ab_neq0 : abin P t .neq h K (.val (.int .u64 a.toNat)) (.val (.int .u64 0)) = K (B (decide (a ≠ 0#64))) h := ab_neq a 0#64
theorem ab_one : abin P t .shl h K (.val (.int .u64 1)) (.val (.int k ((n % 64 : Nat) : Int))) = K (U64 (BitVec.twoPow 64 (n % 64))) h := by
  have hk : n % 64 < 64 := Nat.mod_lt _ (by decide)
  have h2 : (2 : Nat) ^ (n % 64) < 2 ^ 64 := Nat.pow_lt_pow_right (by decide) hk
  have e0 : (2 : Nat) ^ 64 = 18446744073709551616 := by decide
  have e : min (n % 64) IntKind.u64.bits = n % 64 := Nat.min_eq_left (Nat.le_of_lt hk)
  have h3 : ((2 : Int) ^ (n % 64)) = ((2 ^ (n % 64) : Nat) : Int) := by simp
  have h4 : IntKind.u64.wrap (1 * 2 ^ min (n % 64) IntKind.u64.bits) = ((BitVec.twoPow 64 (n % 64)).toNat : Int) := by
    rw [e, BitVec.toNat_twoPow, Nat.mod_eq_of_lt h2, Int.one_mul, h3]
    generalize 2 ^ (n % 64) = z at h2
    exact wrap_u64 (by omega) (by omega)
  rw [abin_shl, Int.toNat_natCast, h4, eq_true (Int.natCast_nonneg _), true_and]
theorem ab_shr : abin P t .shr h K (.val (.int .u64 a.toNat)) (.val (.int k ((n % 64 : Nat) : Int))) = K (U64 (a >>> (n % 64))) h := by
  have hk : n % 64 < 64 := Nat.mod_lt _ (by decide)
  have e : min (n % 64) IntKind.u64.bits = n % 64 := Nat.min_eq_left (Nat.le_of_lt hk)
  have h3 : ((2 : Int) ^ (n % 64)) = ((2 ^ (n % 64) : Nat) : Int) := by simp
  have h4 : (a.toNat : Int).fdiv (2 ^ min (n % 64) IntKind.u64.bits) = ((a >>> (n % 64)).toNat : Int) := by
    rw [e, h3, BitVec.toNat_ushiftRight, Nat.shiftRight_eq_div_pow, Int.fdiv_eq_ediv_of_nonneg _ (Int.natCast_nonneg _)]
    exact (Int.natCast_ediv _ _).symm
  rw [abin_shr, Int.toNat_natCast, h4, eq_true (Int.natCast_nonneg _), true_and]
end
attribute [go_sem high] ab_or ab_and ab_and1 ab_eql ab_neq ab_eql1 ab_neq0 ab_one ab_shr
theorem quo64 (n : Nat) (hn : n < 9223372036854775808) : IntKind.i64.wrap ((n : Int).tdiv 64) = ((n / 64 : Nat) : Int) := by
  have : (n : Int).tdiv 64 = ((n / 64 : Nat) : Int) := by
    rw [Int.tdiv_eq_ediv_of_nonneg (by omega)]; omega
  rw [this]; exact wrap_i64 (by omega) (by omega)
theorem rem64 (n : Nat) : (n : Int).tmod 64 = ((n % 64 : Nat) : Int) := by
  rw [Int.tmod_eq_emod_of_nonneg (by omega)]; omega
theorem toNatC (n : Nat) : ((n : Int)).toNat = n := by simp
theorem bnd {a n : Nat} (h : a < n) : ABound (a : Int) (n : Int) := ⟨by omega, by omega⟩
theorem neF {p : Prop} [Decidable p] : (!decide p) = decide (¬ p) := by simp
theorem ne64 : ((64 : Int) ≠ 0) = True := by simp
theorem nn0 {n : Nat} : (0 ≤ (n : Int)) = True := by simp
attribute [go_sem] ne64 nn0
theorem getSet {h : Heap} {o : Nat} {x} (hl : o < h.length) : (h.set o x)[o]? = some x := by simp [hl]
theorem flats_vals {α : Type} (f : α → Value) (l : List α) : flats (l.map fun a => AV.val (f a)) = l.map fun a => AV.val (f a) := by
  induction l with
  | nil => rfl
  | cons a l ih => simp [flats, flat, ih]
theorem rb_row {n : Nat} {ws : List W64} : RBo n (rowObj ws) := by
  intro x hx
  rw [flats_vals] at hx
  obtain ⟨w, -, rfl⟩ := List.mem_map.1 hx
  exact .val _
theorem WRet.hs {h h1 g : Heap} {K : AV → Heap → Prop} {v : Value} (hs : HS h.length h h1) (hk : K (.val v) h1) : WRet h K (.val v) (h1 ++ g) :=
  ⟨.val v, h1, Wk.free (.one _ _ (by simp) (.pure _ (.val _))) hs, hk⟩
theorem WRet.hs0 {h h1 : Heap} {K : AV → Heap → Prop} {v : Value} (hs : HS h.length h h1) (hk : K (.val v) h1) : WRet h K (.val v) h1 := by
  have := WRet.hs (g := []) hs hk
  rwa [List.append_nil] at this
theorem set_ne {α} {l : List α} {i : Nat} (hi : i < l.length) {x : α} : (l.set i x = l) ↔ x = l[i] := by
  constructor
  · intro h
    have := congrArg (fun l => l[i]?) h
    simpa [hi] using this
  · rintro rfl; simp
theorem aloadO_row {h : Heap} {K : AV → Heap → Prop} {ws : List W64} {i : Nat} : aloadO Try.prog 180 h K 1 i 0 [] (some (some (rowObj ws))) = (i < ws.length ∧ K (U64 (ws.getD i 0)) h) := by
  by_cases hi : i < ws.length
  · have hg := getD_map U64 ws hi
    have e : ws.getD i 0 = ws[i] := by simp [List.getD, hi]
    simp only [rowObj, go_sem, hg, e]
  · simp [rowObj, aloadO_arr, hi]
theorem astoreO_row {h : Heap} {K : AV → Heap → Prop} {ws : List W64} {o i : Nat} {v : W64} : astoreO Try.prog 180 h (.val (.int .u64 v.toNat)) K o 1 i 0 [] (some (some (rowObj ws))) = (i < ws.length ∧ K (.tup []) (h.set o (some (rowObj (ws.set i v))))) := by
  by_cases hi : i < ws.length
  · have hg := getD_map U64 ws hi
    have e : (ws.map U64).set i (U64 v) = (ws.set i v).map U64 := by rw [List.map_set]
    simp only [rowObj, go_sem, hg, e, hi]
  · simp [rowObj, astoreO_arr, hi]
attribute [go_sem] aloadO_row astoreO_row
theorem run63 (o W c) (ws : List W64) (n : Nat) (hW : ws.length = W) (hn : n / 64 < W) (hn2 : n < 9223372036854775808) (h : Heap) (ho : h[o]? = some (some (rowObj ws))) (K)
    (hK : K (B (decide (rowPut ws n ≠ ws))) (h.set o (some (rowObj (rowPut ws n))))) : RunsK Try.prog 63 [.sl o 1 0 W c, I n] h K := by
  refine RunsK.intro Try.func63 rfl (by decide) (by simp only [Try.f63, go_sem]; decide) ?_
  simp only [Try.f63]
  have hol : o < h.length := (List.getElem?_eq_some_iff.1 ho).1
  have hlt : n / 64 < ws.length := by omega
  have hb := bnd hn
  simp only [ho, quo64 n hn2, toNatC, hb, hW, rem64, hn, go_sem, Nat.reduceAdd, Nat.reduceMul, Nat.reduceEqDiff, Nat.reduceLeDiff, List.range_zero, List.drop_zero, List.nil_append, reduceIte]
  refine aw_drawn st63_2 mixed (by kernel_rfl) ?_
  simp only [ho, quo64 n hn2, toNatC, hb, hlt, hW, rem64, hn, getSet hol, List.length_set, go_sem, Nat.reduceAdd, Nat.reduceMul, Nat.reduceEqDiff, Nat.reduceLeDiff, List.range_zero, List.drop_zero, List.nil_append, reduceIte]
  refine WRet.hs0 (.set _ _ .refl rb_row) ?_
  have e2 : (ws.set (n / 64) (ws.getD (n / 64) 0 ||| BitVec.twoPow 64 (n % 64))).getD (n / 64) 0 = ws.getD (n / 64) 0 ||| BitVec.twoPow 64 (n % 64) := by simp [List.getD, hlt]
  have e3 : decide (rowPut ws n ≠ ws) = decide (ws.getD (n / 64) 0 ||| BitVec.twoPow 64 (n % 64) ≠ ws.getD (n / 64) 0) := by
    simp only [ne_eq, rowPut, set_ne hlt]
    simp [List.getD, hlt]
  rw [e2, ← e3]
  exact hK
/-! ### row.join -/
def jn : Nat → List W64 → List W64 → List W64
  | k + 1, x :: a, y :: b => (x ||| y) :: jn k a b
  | _, a, _ => a
theorem jn_zero {a b} : jn 0 a b = a := by cases a <;> cases b <;> rfl
theorem jn_len : ∀ {k a b}, (jn k a b).length = a.length
  | 0, a, b => by rw [jn_zero]
  | k + 1, x :: a, y :: b => by simp [jn, jn_len]
  | k + 1, [], b => by cases b <;> rfl
  | k + 1, x :: a, [] => rfl
theorem jn_get : ∀ {k : Nat} {a b : List W64}, (jn k a b)[k]? = a[k]?
  | 0, a, b => by rw [jn_zero]
  | k + 1, x :: a, y :: b => by simp [jn, jn_get]
  | k + 1, [], b => by cases b <;> rfl
  | k + 1, x :: a, [] => rfl
theorem jn_succ : ∀ {k : Nat} {a b : List W64} (ha : k < a.length) (hb : k < b.length), jn (k + 1) a b = (jn k a b).set k (a[k] ||| b[k])
  | 0, x :: a, y :: b, _, _ => by simp [jn, jn_zero]
  | k + 1, x :: a, y :: b, ha, hb => by
    simp only [List.length_cons] at ha hb
    have := jn_succ (k := k) (a := a) (b := b) (by omega) (by omega)
    rw [jn, this]
    simp [jn]
  | _, [], _, ha, _ => by simp at ha
  | _, _ :: _, [], _, hb => by simp at hb
theorem jn_eq {k : Nat} {a b : List W64} (ha : k < a.length) (hb : k < b.length) : (jn (k + 1) a b = a) ↔ (jn k a b = a ∧ a[k] ||| b[k] = a[k]) := by
  rw [jn_succ ha hb]
  have hl : k < (jn k a b).length := by rw [jn_len]; exact ha
  have hg : (jn k a b)[k] = a[k] := by
    have := jn_get (k := k) (a := a) (b := b)
    rw [List.getElem?_eq_getElem hl, List.getElem?_eq_getElem ha] at this
    exact Option.some.inj this
  constructor
  · intro h
    have h1 : a[k] ||| b[k] = a[k] := by
      have := congrArg (fun l => l[k]?) h
      simpa [hl, ha] using this
    rw [h1, ← hg] at h
    simp at h
    exact ⟨h, h1⟩
  · rintro ⟨h1, h2⟩
    rw [h2, ← hg]; simpa using h1
theorem jn_all : ∀ {a b : List W64}, b.length = a.length → jn a.length a b = rowJoin a b
  | [], [], _ => rfl
  | x :: a, y :: b, h => by
    have := jn_all (a := a) (b := b) (by simpa using h)
    simp only [List.length_cons, jn, this, rowJoin, List.zipWith_cons_cons]
  | [], _ :: _, h => by simp at h
  | _ :: _, [], h => by simp at h
theorem ltI {a b : Nat} : ((a : Int) < (b : Int)) = (a < b) := by rw [eq_iff_iff]; omega
theorem inc64 {n m : Nat} (h : n < m) (hm : m < 9223372036854775808) : IntKind.i64.wrap ((n : Int) + 1) = ((n + 1 : Nat) : Int) := by
  rw [wrap_i64 (by omega) (by omega)]; omega
theorem setSet {h : Heap} {o : Nat} {x y} : (h.set o x).set o y = h.set o y := List.set_set ..
theorem mapSet {α} (f : α → AV) (l : List α) (k : Nat) (x : α) : (l.map f).set k (f x) = (l.set k x).map f := by rw [List.map_set]
theorem run64 (o o' W c c') (a b : List W64) (hW : a.length = W) (hW' : b.length = W) (hlim : W < 9223372036854775808) (h : Heap) (ho : h[o]? = some (some (rowObj a))) (ho' : h[o']? = some (some (rowObj b))) (K)
    (hK : K (B (decide (rowJoin a b ≠ a))) (h.set o (some (rowObj (rowJoin a b))))) : RunsK Try.prog 64 [.sl o 1 0 W c, .sl o' 1 0 W c'] h K := by
  refine RunsK.intro Try.func64 rfl (by decide) (by simp only [Try.f64, go_sem]; decide) ?_
  simp only [Try.f64]
  have hol : o < h.length := (List.getElem?_eq_some_iff.1 ho).1
  have hset : h.set o (some (rowObj a)) = h := by
    obtain ⟨h1, h2⟩ := List.getElem?_eq_some_iff.1 ho
    rw [← h2]; simp
  simp only [go_sem, Nat.reduceAdd, Nat.reduceMul, Nat.reduceEqDiff, Nat.reduceLeDiff, List.range_zero, List.drop_zero, List.nil_append, reduceIte]
  refine aLoop_nat [0, 5, 8, 9, 10] W (fun k vs hh => hh = h.set o (some (rowObj (jn k a b))) ∧ vs = [.sl o 1 0 W c, B (decide (jn k a b ≠ a)), .sl o' 1 0 W c', I W, I k]) ?_ ?_
  · simp only [go_sem, Nat.reduceAdd, Nat.reduceMul, Nat.reduceEqDiff, Nat.reduceLeDiff, List.range_zero, List.drop_zero, List.nil_append, reduceIte]
    exact ⟨by rw [jn_zero, hset], by simp [jn_zero]⟩
  · rintro k vs hh hk - ⟨rfl, rfl⟩ I' μ m hn
    simp only [ltI, go_sem, Nat.reduceAdd, Nat.reduceMul, Nat.reduceEqDiff, Nat.reduceLeDiff, List.range_zero, List.drop_zero, List.nil_append, reduceIte]
    refine AIf_intro (fun hlt => ?_) (fun hge => ?_)
    · simp only [decide_eq_true_eq] at hlt
      have hka : k < a.length := by omega
      have hkb : k < b.length := by omega
      have hab := bnd hlt
      have hko : ∃ cs : List W64, (h.set o (some (rowObj (jn k a b))))[o']? = some (some (rowObj cs)) ∧ ∃ hc : k < cs.length, cs[k] = b[k] := by
        by_cases e : o = o'
        · subst e
          rw [ho] at ho'
          have hrr : rowObj a = rowObj b := by simpa using ho'
          have hab : a = b := by
            simp only [rowObj, AObj.arr.injEq, true_and] at hrr
            refine List.map_inj_right (fun x y e => ?_) |>.1 hrr
            simp at e
            exact BitVec.eq_of_toNat_eq (by omega)
          refine ⟨jn k a b, getSet hol, by rw [jn_len]; exact hka, ?_⟩
          have := jn_get (k := k) (a := a) (b := b)
          rw [List.getElem?_eq_getElem (by rw [jn_len]; exact hka), List.getElem?_eq_getElem hka] at this
          rw [Option.some.inj this]
          subst hab; rfl
        · refine ⟨b, ?_, hkb, rfl⟩
          rw [List.getElem?_set, if_neg e]; exact ho'
      obtain ⟨cs, hcs, hkc, hcv⟩ := hko
      have hkj : k < (jn k a b).length := by rw [jn_len]; exact hka
      have hcg : cs.getD k 0 = b[k] := by simp [List.getD, hkc, hcv]
      have hjg : (jn k a b).getD k 0 = a[k] := by rw [List.getD, jn_get]; simp [hka]
      have hfin : ∀ g, g = decide (jn (k + 1) a b ≠ a) → (I' [.sl o 1 0 W c, B g, .sl o' 1 0 W c', I W, I (k + 1 : Nat)] (h.set o (some (rowObj ((jn k a b).set k (a[k] ||| b[k]))))) ∧ μ [.sl o 1 0 W c, B g, .sl o' 1 0 W c', I W, I (k + 1 : Nat)] (h.set o (some (rowObj ((jn k a b).set k (a[k] ||| b[k]))))) < m) := by
        rintro g rfl
        exact hn _ _ hlt ⟨by rw [jn_succ hka hkb], rfl⟩
      have hje := jn_eq hka hkb
      simp only [hab, hcs, hkc, hcg, toNatC, go_sem, Nat.reduceAdd, Nat.reduceMul, Nat.reduceEqDiff, Nat.reduceLeDiff, List.range_zero, List.drop_zero, List.nil_append, reduceIte]
      refine aw_drawn st64_5 mixed (by kernel_rfl) ?_
      simp only [toNatC, go_sem, Nat.reduceAdd, Nat.reduceMul, Nat.reduceEqDiff, Nat.reduceLeDiff, List.range_zero, List.drop_zero, List.nil_append, reduceIte]
      refine AIf_intro (fun hb => ?_) (fun hb => ?_)
      · simp only [hb, hab, hcs, hkc, hcg, toNatC, getSet hol, hkj, hjg, setSet, inc64 hlt hlim, go_sem, Nat.reduceAdd, Nat.reduceMul, Nat.reduceEqDiff, Nat.reduceLeDiff, List.range_zero, List.drop_zero, List.nil_append, reduceIte]
        exact hfin _ (by simp at hb; simp [hje, hb])
      · simp only [hb, hab, hcs, hkc, hcg, toNatC, getSet hol, hkj, hjg, setSet, inc64 hlt hlim, go_sem, Nat.reduceAdd, Nat.reduceMul, Nat.reduceEqDiff, Nat.reduceLeDiff, List.range_zero, List.drop_zero, List.nil_append, reduceIte]
        exact hfin _ (by simp at hb; simp [hje, hb])
    · simp only [hge, go_sem, Nat.reduceAdd, Nat.reduceMul, Nat.reduceEqDiff, Nat.reduceLeDiff, List.range_zero, List.drop_zero, List.nil_append, reduceIte]
      simp only [decide_eq_false_iff_not] at hge
      have hkW : k = a.length := by omega
      subst hkW
      have hall := jn_all (a := a) (b := b) (by omega)
      rw [hall]
      exact WRet.hs0 (.set _ _ .refl rb_row) hK
end Go.Am
