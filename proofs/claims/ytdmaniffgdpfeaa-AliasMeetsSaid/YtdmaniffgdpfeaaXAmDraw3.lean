/- A part of the proof that AliasThings and AliasMeets return true for every module: texts on an abstract reading of the code (AmDraw, AmDraw2, AmDraw3). -/
import Derived.Test.YtdmaniffgdpfeaaXAmLate
set_option linter.unusedVariables false
set_option linter.unusedSimpArgs false
set_option linter.unusedSectionVars false
set_option linter.unusedVariables false
namespace Go.Am
open Go

/-! ### operations that change nothing -/
def quietOp : Op → Bool
  | .move _ | .assign _ | .pick .. | .fieldAddr .. | .indexAddr .. | .load .. | .binOp .. | .unOp .not .. | .unOp .neg .. | .convert .. | .nilCheck _ | .build .. | .slice .. | .makeFunc .. | .extract .. => true
  | .call { callee := .builtin .len, .. } | .call { callee := .builtin .cap, .. } => true
  | _ => false
def isLoad : Op → Bool
  | .load .. => true
  | _ => false
def isAl : Op → Bool
  | .alloc _ => true
  | _ => false
def alAt (ops : Array Oper) (i : Nat) : Bool := match ops[i]? with
  | some o => isAl o.op && o.guard.isNone
  | none => false
theorem quiet_al {op : Op} (h : quietOp op = true) : isAl op = false := by
  cases op <;> first | rfl | (simp [quietOp] at h)
section
variable {P : Program} {o : Oper} {tm : List AV} {h : Heap} {K : AV → Heap → Prop}
def only (v : AV) (h : Heap) : AV → Heap → Prop := fun v' h' => v' = v ∧ h' = h
theorem aload_quiet {t x} (hk : aload P t h K x) : ∃ v, K v h ∧ aload P t h (only v h) x := by
  unfold aload at hk
  split at hk
  · exact ⟨_, hk.2, hk.1, rfl, rfl⟩
  · split at hk
    · rename_i ho
      obtain ⟨h1, h2, h3, hk⟩ := hk
      split at hk
      · rename_i y hy
        refine ⟨y, hk.2, ?_⟩
        simp only [aload, ho]
        refine ⟨h1, h2, h3, ?_⟩
        rw [hy]
        exact ⟨hk.1, rfl, rfl⟩
      · exact hk.elim
    · exact hk.elim
  · exact hk.elim
theorem abuildGo_quiet {ps} : ∀ {zs}, abuildGo h K zs ps → ∃ v, K v h ∧ ∀ h2, abuildGo h2 (only v h2) zs ps := by
  induction ps with
  | nil => intro zs hk; exact ⟨_, hk, fun h2 => ⟨rfl, rfl⟩⟩
  | cons p ps ih =>
    intro zs hk
    obtain ⟨i, x⟩ := p
    obtain ⟨v, h1, h2⟩ := ih hk.2
    exact ⟨v, h1, fun h3 => ⟨hk.1, h2 h3⟩⟩
/-- what a quiet operation comes to; one that reads no memory comes to it in every heap -/
theorem aop_quiet (hq : quietOp o.op = true) (hk : aop P o tm h K) : ∃ v, K v h ∧ aop P o tm h (only v h) ∧ (isLoad o.op = false → ∀ h2, aop P o tm h2 (only v h2)) := by
  obtain ⟨dst, op, type, pos, after, guard⟩ := o
  cases op <;> simp only [quietOp] at hq <;> first | cases hq | skip
  case move x => exact ⟨_, hk, ⟨rfl, rfl⟩, fun _ _ => ⟨rfl, rfl⟩⟩
  case assign x => exact ⟨_, hk, ⟨rfl, rfl⟩, fun _ _ => ⟨rfl, rfl⟩⟩
  case pick c a b =>
    simp only [aop, apick] at hk ⊢
    split at hk
    · rename_i t ht
      try simp only [ht]
      cases t
      · exact ⟨_, hk.2 rfl, AIf_intro (fun e => (by cases e)) (fun _ => ⟨rfl, rfl⟩), fun _ h2 => AIf_intro (fun e => (by cases e)) (fun _ => ⟨rfl, rfl⟩)⟩
      · exact ⟨_, hk.1 rfl, AIf_intro (fun _ => ⟨rfl, rfl⟩) (fun e => (by cases e)), fun _ h2 => AIf_intro (fun _ => ⟨rfl, rfl⟩) (fun e => (by cases e))⟩
    · exact hk.elim
  case fieldAddr s x f =>
    simp only [aop, afield] at hk ⊢
    split at hk
    · rename_i hx
      try simp only [hx]
      split at hk
      · rename_i n hf; (try simp only [hf]); exact ⟨_, hk, ⟨rfl, rfl⟩, fun _ _ => ⟨rfl, rfl⟩⟩
      · exact hk.elim
    · rename_i xs hx
      try simp only [hx]
      split at hk
      · rename_i n y hf hy; (try simp only [hf, hy]); exact ⟨_, hk.2, ⟨hk.1, rfl, rfl⟩, fun _ _ => ⟨hk.1, rfl, rfl⟩⟩
      · exact hk.elim
    · exact hk.elim
  case indexAddr t x i =>
    simp only [aop, aindex] at hk ⊢
    split at hk
    · rename_i h1 h2
      try simp only [h1, h2]
      exact ⟨_, hk.2.2, ⟨hk.1, hk.2.1, rfl, rfl⟩, fun _ _ => ⟨hk.1, hk.2.1, rfl, rfl⟩⟩
    · rename_i h1 h2
      try simp only [h1, h2]
      exact ⟨_, hk.2.2, ⟨hk.1, hk.2.1, rfl, rfl⟩, fun _ _ => ⟨hk.1, hk.2.1, rfl, rfl⟩⟩
    · rename_i h1 h2
      try simp only [h1, h2]
      simp only [aarrP] at hk ⊢
      split at hk
      · rename_i har
        try simp only [har]
        exact ⟨_, hk.2, ⟨hk.1, rfl, rfl⟩, fun _ _ => ⟨hk.1, rfl, rfl⟩⟩
      · exact hk.elim
    · exact hk.elim
  case load t x =>
    obtain ⟨v, h1, h2⟩ := aload_quiet hk
    exact ⟨v, h1, h2, fun e => by simp [isLoad] at e⟩
  case binOp op t x y u =>
    have key : ∀ {K : AV → Heap → Prop} {b}, aeqb op h K b → ∃ v, K v h ∧ aeqb op h (only v h) b ∧ ∀ h2, aeqb op h2 (only v h2) b := by
      intro K b hk
      cases op <;> first | exact ⟨_, hk, ⟨rfl, rfl⟩, fun _ => ⟨rfl, rfl⟩⟩ | exact hk.elim
    simp only [aop, abin] at hk ⊢
    split at hk
    · rename_i h1 h2
      try simp only [h1, h2]
      cases op <;> simp only at hk ⊢ <;> first
        | exact ⟨_, hk.2.2, ⟨hk.1, hk.2.1, rfl, rfl⟩, fun _ _ => ⟨hk.1, hk.2.1, rfl, rfl⟩⟩
        | exact ⟨_, hk.2, ⟨hk.1, rfl, rfl⟩, fun _ _ => ⟨hk.1, rfl, rfl⟩⟩
        | exact hk.elim
    all_goals first
      | (rename_i h1 h2
         try simp only [h1, h2]
         obtain ⟨v, k1, k2, k3⟩ := key hk.2
         exact ⟨v, k1, ⟨hk.1, k2⟩, fun _ h2 => ⟨hk.1, k3 h2⟩⟩)
      | exact hk.elim
  case unOp op t x =>
    cases op <;> simp at hq
    · simp only [aop, aneg] at hk ⊢
      split at hk
      · rename_i h1; (try simp only [h1]); exact ⟨_, hk, ⟨rfl, rfl⟩, fun _ _ => ⟨rfl, rfl⟩⟩
      · exact hk.elim
    · simp only [aop, anot] at hk ⊢
      split at hk
      · rename_i h1; (try simp only [h1]); exact ⟨_, hk, ⟨rfl, rfl⟩, fun _ _ => ⟨rfl, rfl⟩⟩
      · exact hk.elim
  case convert src d x =>
    simp only [aop, aconv] at hk ⊢
    split at hk
    · rename_i h1
      try simp only [h1]
      split at hk
      · rename_i h2 h3; (try simp only [h2, h3]); exact ⟨_, hk, ⟨rfl, rfl⟩, fun _ _ => ⟨rfl, rfl⟩⟩
      · exact hk.elim
    · exact hk.elim
  case nilCheck x =>
    simp only [aop, anil] at hk ⊢
    split at hk
    · rename_i h1; (try simp only [h1] at hk ⊢); exact ⟨_, hk, ⟨rfl, rfl⟩, fun _ _ => ⟨rfl, rfl⟩⟩
    · rename_i h1; (try simp only [h1] at hk ⊢); exact ⟨_, hk, ⟨rfl, rfl⟩, fun _ _ => ⟨rfl, rfl⟩⟩
    · rename_i h1; (try simp only [h1] at hk ⊢); exact ⟨_, hk, ⟨rfl, rfl⟩, fun _ _ => ⟨rfl, rfl⟩⟩
    · exact hk.elim
  case build t ps =>
    simp only [aop, abuild] at hk ⊢
    split at hk
    · rename_i h1
      try simp only [h1]
      obtain ⟨v, k1, k2⟩ := abuildGo_quiet hk
      exact ⟨v, k1, k2 h, fun _ => k2⟩
    · exact hk.elim
  case slice t x lo hi mx =>
    simp only [aop, aslice] at hk ⊢
    split at hk
    · exact hk.elim
    · rename_i h1
      try simp only [h1]
      split at hk
      · rename_i h2
        try simp only [h2]
        split at hk
        · rename_i h3
          try simp only [h3]
          split at hk
          · rename_i h4 h5; (try simp only [h4, h5]); exact ⟨_, hk.2.2, ⟨hk.1, hk.2.1, rfl, rfl⟩, fun _ _ => ⟨hk.1, hk.2.1, rfl, rfl⟩⟩
          · exact hk.elim
        · rename_i h3
          try simp only [h3]
          split at hk
          · rename_i h4 h5; (try simp only [h4, h5]); exact ⟨_, hk.2.2, ⟨hk.1, hk.2.1, rfl, rfl⟩, fun _ _ => ⟨hk.1, hk.2.1, rfl, rfl⟩⟩
          · exact hk.elim
        · rename_i h3
          try simp only [h3]
          split at hk
          · rename_i h4 h5; (try simp only [h4, h5]); exact ⟨_, hk.2.2, ⟨hk.1, hk.2.1, rfl, rfl⟩, fun _ _ => ⟨hk.1, hk.2.1, rfl, rfl⟩⟩
          · exact hk.elim
        · exact hk.elim
      · rename_i h2
        try simp only [h2]
        split at hk
        · rename_i h3 h4
          try simp only [h3, h4]
          obtain ⟨k1, hk⟩ := hk
          split at hk <;> first
            | (rename_i h5; (try simp only [h5]); exact ⟨_, hk, ⟨k1, rfl, rfl⟩, fun _ _ => ⟨k1, rfl, rfl⟩⟩)
            | exact hk.elim
        · exact hk.elim
      · exact hk.elim
  case makeFunc f first cap => exact ⟨_, hk, ⟨rfl, rfl⟩, fun _ _ => ⟨rfl, rfl⟩⟩
  case extract x i =>
    simp only [aop, aext] at hk ⊢
    split at hk
    · rename_i h1
      try simp only [h1]
      split at hk
      · rename_i h2; (try simp only [h2]); exact ⟨_, hk, ⟨rfl, rfl⟩, fun _ _ => ⟨rfl, rfl⟩⟩
      · exact hk.elim
    · exact hk.elim
  case call c =>
    obtain ⟨callee, args, ats⟩ := c
    cases callee with
    | value f => simp [quietOp] at hq
    | invoke f => simp [quietOp] at hq
    | builtin b =>
      have key : ∀ {K : AV → Heap → Prop} {x}, alen h K x → ∃ v, K v h ∧ alen h (only v h) x ∧ ∀ h2, alen h2 (only v h2) x := by
        intro K x hk
        unfold alen at hk
        split at hk <;> first | exact ⟨_, hk, ⟨rfl, rfl⟩, fun _ => ⟨rfl, rfl⟩⟩ | exact hk.elim
      have key2 : ∀ {K : AV → Heap → Prop} {x}, acap h K x → ∃ v, K v h ∧ acap h (only v h) x ∧ ∀ h2, acap h2 (only v h2) x := by
        intro K x hk
        unfold acap at hk
        split at hk <;> first | exact ⟨_, hk, ⟨rfl, rfl⟩, fun _ => ⟨rfl, rfl⟩⟩ | exact hk.elim
      have hb : b = .len ∨ b = .cap := by cases b <;> simp_all [quietOp]
      rcases hb with rfl | rfl
      · simp only [aop, abuiltin] at hk ⊢
        generalize args.toList.map (rho tm) = as at hk ⊢
        generalize ats.toList = ts at hk ⊢
        match as, ts, hk with
        | [x], [t], hk =>
          obtain ⟨v, k1, k2, k3⟩ := key hk.2
          exact ⟨v, k1, ⟨hk.1, k2⟩, fun _ h2 => ⟨hk.1, k3 h2⟩⟩
      · simp only [aop, abuiltin] at hk ⊢
        generalize args.toList.map (rho tm) = as at hk ⊢
        generalize ats.toList = ts at hk ⊢
        match as, ts, hk with
        | [x], [t], hk =>
          obtain ⟨v, k1, k2, k3⟩ := key2 hk.2
          exact ⟨v, k1, ⟨hk.1, k2⟩, fun _ h2 => ⟨hk.1, k3 h2⟩⟩
end
end Go.Am

set_option linter.unusedVariables false
namespace Go.Am
open Go
section
variable {P : Program} {o : Oper} {tm tm' : List AV} {h : Heap} {K : AV → Heap → Prop}
theorem parts_congr (ps : List (Nat × Operand)) (ht : ∀ p ∈ ps, rho tm p.2 = rho tm' p.2) : (ps.map fun p => (p.1, rho tm p.2)) = (ps.map fun p => (p.1, rho tm' p.2)) := List.map_congr_left fun p hp => by rw [ht p hp]
theorem aop_congr (ht : ∀ x ∈ o.op.operands, rho tm x = rho tm' x) : aop P o tm h K = aop P o tm' h K := by
  obtain ⟨dst, op, type, pos, after, guard⟩ := o
  cases op <;> simp only [Op.operands] at ht <;> simp only [aop]
  case move x => rw [ht x (by simp)]
  case assign x => rw [ht x (by simp)]
  case pick c a b => rw [ht c (by simp), ht a (by simp), ht b (by simp)]
  case fieldAddr s x f => rw [ht x (by simp)]
  case indexAddr t x i => rw [ht x (by simp), ht i (by simp)]
  case load t x => rw [ht x (by simp)]
  case store t x v => rw [ht x (by simp), ht v (by simp)]
  case binOp op t x y u => rw [ht x (by simp), ht y (by simp)]
  case unOp op t x => cases op <;> simp only [] <;> rw [ht x (by simp)]
  case convert src d x => rw [ht x (by simp)]
  case nilCheck x => rw [ht x (by simp)]
  case box e x => rw [ht x (by simp)]
  case build t ps => rw [parts_congr ps.toList fun p hp => ht _ (by simp; exact ⟨p.1, by simpa using hp⟩)]
  case buildSlice t n ps =>
    have : (ps.toList.map fun p => rho tm p.2) = (ps.toList.map fun p => rho tm' p.2) := List.map_congr_left fun p hp => ht _ (by simp; exact ⟨p.1, by simpa using hp⟩)
    rw [this]
  case makeSlice t l c => rw [ht l (by simp), ht c (by simp)]
  case slice t x lo hi mx =>
    rw [ht x (by simp)]
    have h1 : lo.map (rho tm) = lo.map (rho tm') := by cases lo with | none => rfl | some y => simp [ht y (by simp)]
    have h2 : hi.map (rho tm) = hi.map (rho tm') := by cases hi with | none => rfl | some y => simp [ht y (by simp)]
    have h3 : mx.map (rho tm) = mx.map (rho tm') := by cases mx with | none => rfl | some y => simp [ht y (by simp)]
    rw [h1, h2, h3]
  case makeFunc f first cap =>
    have h1 : first.toList.map (rho tm) = first.toList.map (rho tm') := List.map_congr_left fun x hx => ht x (by simp; exact .inl (by simpa using hx))
    have h2 : cap.toList.map (rho tm) = cap.toList.map (rho tm') := List.map_congr_left fun x hx => ht x (by simp; exact .inr (by simpa using hx))
    rw [h1, h2]
  case extract x i => rw [ht x (by simp)]
  case call c =>
    obtain ⟨callee, args, ats⟩ := c
    simp only [Call.operands] at ht
    have h1 : args.toList.map (rho tm) = args.toList.map (rho tm') := List.map_congr_left fun x hx => ht x (by simp; exact .inr (by simpa using hx))
    cases callee with
    | builtin b => simp only; rw [h1]
    | value f => simp only; rw [h1, ht f (by simp)]
    | invoke => rfl
theorem rho_get {x : Operand} (hx : ∀ t, x = .tmp t → tm.getD t (.tup []) = tm'.getD t (.tup [])) : rho tm x = rho tm' x := by
  cases x with
  | tmp t => exact hx t rfl
  | _ => rfl

/-! ### the static check -/
def nubC (x : Nat) (r : List Nat) : List Nat := if r.contains x then r else x :: r
def nub (l : List Nat) : List Nat := l.foldr nubC []
theorem mem_nub' (l : List Nat) : ∀ x : Nat, x ∈ nub l ↔ x ∈ l := by
  induction l with
  | nil => intro x; simp [nub]
  | cons y l ih =>
    intro x
    show x ∈ nubC y (nub l) ↔ _
    unfold nubC
    split
    · rename_i h
      rw [List.contains_iff_mem, ih] at h
      rw [ih, List.mem_cons]
      exact ⟨.inr, fun hx => hx.elim (fun e => e ▸ h) id⟩
    · rw [List.mem_cons, List.mem_cons, ih]
theorem mem_nub {x : Nat} {l : List Nat} : x ∈ nub l ↔ x ∈ l := mem_nub' l x
/-- what must come ahead of each operation -/
def presFrom : List Oper → List (List Nat) → List (List Nat)
  | [], acc => acc
  | o :: os, acc => presFrom os (acc ++ [nub ((o.after.toList.filter fun e => Region.binds .any e).flatMap fun e => e.on :: acc.getD e.on [])])
def pres (ops : List Oper) : List (List Nat) := presFrom ops []
def idx : Stp → Nat
  | .q i => i
  | .c i _ => i
def isC : Stp → Bool
  | .q _ => false
  | .c .. => true
/-- a making that comes ahead of all else -/
def alS (ops : Array Oper) (s : Stp) : Bool := !isC s && alAt ops (idx s)
/-- steps done already, the steps to come -/
def chkGo (ops : Array Oper) (pr : List (List Nat)) : List Stp → List Stp → Bool
  | _, [] => true
  | done, s :: rest =>
    (match ops[idx s]? with
    | none => false
    | some o =>
      ((pr.getD (idx s) []).all fun j => done.any fun d => idx d == j) &&
      (done.all fun d => !isC d || (pr.getD (idx s) []).contains (idx d)) &&
      (match s with
        | .q i => quietOp o.op || (alAt ops i && done.all fun d => alS ops d)
        | .c i re => done.all fun d => isC d || (pr.getD i []).contains (idx d) || re.contains (idx d) || !((ops[idx d]?).map fun x => isLoad x.op || isAl x.op).getD true) &&
      (done.all fun d => (pr.getD (idx s) []).contains (idx d) || match ops[idx d]? with
        | some x => Oper.apart ops x o
        | none => false)) && chkGo ops pr (done ++ [s]) rest
def chk (ops : Array Oper) (steps : List Stp) : Bool :=
  chkGo ops (pres ops.toList) [] steps && (List.range ops.size).all (fun i => (steps.map idx).contains i) && decide (steps.map idx).Nodup

theorem presFrom_pre (os : List Oper) : ∀ acc, ∃ r, presFrom os acc = acc ++ r := by
  induction os with
  | nil => exact fun acc => ⟨[], by simp [presFrom]⟩
  | cons o os ih =>
    intro acc
    obtain ⟨r, hr⟩ := ih (acc ++ [nub ((o.after.toList.filter fun e => Region.binds .any e).flatMap fun e => e.on :: acc.getD e.on [])])
    exact ⟨_, by rw [presFrom, hr, List.append_assoc]⟩
theorem presFrom_mem (os : List Oper) : ∀ acc t j, j ∈ (presFrom os acc).getD (acc.length + t) [] → ∃ o e, os[t]? = some o ∧ e ∈ o.after ∧ Region.binds .any e = true ∧ (j = e.on ∨ j ∈ (presFrom os acc).getD e.on []) := by
  induction os with
  | nil => intro acc t j hj; simp [presFrom] at hj
  | cons o os ih =>
    intro acc t j hj
    rw [presFrom] at hj ⊢
    cases t with
    | zero =>
      obtain ⟨r, hr⟩ := presFrom_pre os (acc ++ [nub ((o.after.toList.filter fun e => Region.binds .any e).flatMap fun e => e.on :: acc.getD e.on [])])
      rw [hr] at hj ⊢
      have : (acc ++ [nub ((o.after.toList.filter fun e => Region.binds .any e).flatMap fun e => e.on :: acc.getD e.on [])] ++ r).getD (acc.length + 0) [] = nub ((o.after.toList.filter fun e => Region.binds .any e).flatMap fun e => e.on :: acc.getD e.on []) := by
        simp [List.getD]
      rw [this, mem_nub, List.mem_flatMap] at hj
      obtain ⟨e, he, hj⟩ := hj
      rw [List.mem_filter] at he
      refine ⟨o, e, rfl, by simpa using he.1, he.2, ?_⟩
      rcases List.mem_cons.1 hj with rfl | hj
      · exact .inl rfl
      · right
        by_cases hlt : e.on < acc.length
        · have e1 : acc.getD e.on [] = acc[e.on] := by simp [List.getD, hlt]
          rw [e1] at hj
          have e2 : (acc ++ [nub ((o.after.toList.filter fun e => Region.binds .any e).flatMap fun e => e.on :: acc.getD e.on [])] ++ r).getD e.on [] = acc[e.on] := by
            rw [List.append_assoc]
            simp [List.getD, List.getElem?_append_left hlt, hlt]
          rw [e2]; exact hj
        · simp [List.getD, Nat.le_of_not_lt hlt] at hj
    | succ t =>
      have := ih (acc ++ [nub ((o.after.toList.filter fun e => Region.binds .any e).flatMap fun e => e.on :: acc.getD e.on [])]) t j (by simpa [Nat.add_assoc, Nat.add_comm 1 t] using hj)
      obtain ⟨o', e, h1, h2⟩ := this
      exact ⟨o', e, by simpa using h1, h2⟩
theorem pres_mem {ops : List Oper} {i j : Nat} (hj : j ∈ (pres ops).getD i []) : ∃ o e, ops[i]? = some o ∧ e ∈ o.after ∧ Region.binds .any e = true ∧ (j = e.on ∨ j ∈ (pres ops).getD e.on []) := by
  have := presFrom_mem ops [] i j (by rw [List.length_nil, Nat.zero_add]; exact hj)
  exact this
theorem presFrom_on (os : List Oper) : ∀ acc t o e, os[t]? = some o → e ∈ o.after → Region.binds .any e = true → e.on ∈ (presFrom os acc).getD (acc.length + t) [] := by
  induction os with
  | nil => intro acc t o e h; simp at h
  | cons o os ih =>
    intro acc t o' e ho he hb
    rw [presFrom]
    cases t with
    | zero =>
      simp at ho; subst ho
      obtain ⟨r, hr⟩ := presFrom_pre os (acc ++ [nub ((o.after.toList.filter fun e => Region.binds .any e).flatMap fun e => e.on :: acc.getD e.on [])])
      rw [hr]
      have : (acc ++ [nub ((o.after.toList.filter fun e => Region.binds .any e).flatMap fun e => e.on :: acc.getD e.on [])] ++ r).getD (acc.length + 0) [] = nub ((o.after.toList.filter fun e => Region.binds .any e).flatMap fun e => e.on :: acc.getD e.on []) := by
        simp [List.getD]
      rw [this, mem_nub, List.mem_flatMap]
      exact ⟨e, List.mem_filter.2 ⟨by simpa using he, hb⟩, by simp⟩
    | succ t =>
      have := ih (acc ++ [nub ((o.after.toList.filter fun e => Region.binds .any e).flatMap fun e => e.on :: acc.getD e.on [])]) t o' e (by simpa using ho) he hb
      simpa [Nat.add_assoc, Nat.add_comm 1 t] using this
theorem pres_on {ops : List Oper} {i : Nat} {o : Oper} {e : Edge} (ho : ops[i]? = some o) (he : e ∈ o.after) (hb : Region.binds .any e = true) : e.on ∈ (pres ops).getD i [] := by
  have := presFrom_on ops [] i o e ho he hb
  rw [List.length_nil, Nat.zero_add] at this
  exact this
/-- what is listed is closed downward -/
def Down (pr : List (List Nat)) (listed : Array Bool) : Prop := ∀ i, listed.getD i false = true → ∀ j ∈ pr.getD i [], listed.getD j false = true
theorem ready_pres {ops : Array Oper} {listed : Array Bool} (hd : Down (pres ops.toList) listed) {i : Nat} (hi : i ∈ Region.ready .any ops listed) : i < ops.size ∧ listed.getD i true = false ∧ ∀ j ∈ (pres ops.toList).getD i [], listed.getD j false = true := by
  unfold Region.ready at hi
  rw [List.mem_filter] at hi
  obtain ⟨h1, h2⟩ := hi
  have hlt : i < ops.size := by simpa using h1
  simp only [Bool.and_eq_true, Bool.not_eq_true'] at h2
  refine ⟨hlt, h2.1, fun j hj => ?_⟩
  obtain ⟨o, e, k1, k2, k3, k4⟩ := pres_mem hj
  rw [Array.getElem?_toList] at k1
  have h3 := h2.2
  rw [k1] at h3
  simp only [Option.map_some, Option.getD_some] at h3
  have h4 := (Array.all_eq_true'.1 h3) e k2
  simp only [k3, Bool.not_true, Bool.false_or] at h4
  rcases k4 with rfl | k4
  · exact h4
  · exact hd _ h4 j k4
/-- the facts of a step -/
structure StepOk (ops : Array Oper) (pr : List (List Nat)) (done : List Stp) (s : Stp) (o : Oper) : Prop where
  get : ops[idx s]? = some o
  pre : ∀ j ∈ pr.getD (idx s) [], ∃ d ∈ done, idx d = j
  chain : ∀ d ∈ done, isC d = true → idx d ∈ pr.getD (idx s) []
  quiet : isC s = false → quietOp o.op = true ∨ (alAt ops (idx s) = true ∧ ∀ d ∈ done, alS ops d = true)
  re : ∀ i re, s = .c i re → ∀ d ∈ done, isC d = false → idx d ∉ pr.getD i [] → (∀ x, ops[idx d]? = some x → (isLoad x.op || isAl x.op) = true → idx d ∈ re)
  apart : ∀ d ∈ done, idx d ∉ pr.getD (idx s) [] → ∃ x, ops[idx d]? = some x ∧ Oper.apart ops x o = true
theorem chkGo_cons {ops : Array Oper} {pr : List (List Nat)} {done rest : List Stp} {s : Stp} (h : chkGo ops pr done (s :: rest) = true) : (∃ o, StepOk ops pr done s o) ∧ chkGo ops pr (done ++ [s]) rest = true := by
  simp only [chkGo, Bool.and_eq_true] at h
  refine ⟨?_, h.2⟩
  have h := h.1
  split at h
  · cases h
  · rename_i o ho
    simp only [Bool.and_eq_true, List.all_eq_true, List.any_eq_true, Bool.or_eq_true, Bool.not_eq_true', List.contains_iff_mem, beq_iff_eq] at h
    obtain ⟨⟨⟨h1, h2⟩, h3⟩, h4⟩ := h
    refine ⟨o, ho, h1, fun d hd hc => ?_, fun hc => ?_, fun i re hs d hd hc hn x hx hl => ?_, fun d hd hn => ?_⟩
    · rcases h2 d hd with h | h
      · rw [hc] at h; cases h
      · exact h
    · cases s with
      | q i =>
        simp only [Bool.or_eq_true, Bool.and_eq_true, List.all_eq_true] at h3
        exact h3
      | c i re => cases hc
    · subst hs
      simp only [List.all_eq_true, Bool.or_eq_true, List.contains_iff_mem, Bool.not_eq_true'] at h3
      rcases h3 d hd with ((h | h) | h) | h
      · rw [hc] at h; cases h
      · exact absurd h hn
      · exact h
      · rw [hx] at h; simp only [Option.map_some, Option.getD_some, hl] at h; cases h
    · rcases h4 d hd with h | h
      · exact absurd h hn
      · split at h
        · rename_i x hx; exact ⟨x, hx, h⟩
        · cases h
end
end Go.Am

set_option linter.unusedVariables false
namespace Go.Am
open Go

abbrev Ent := Stp × List AV × AV
def dstI (ops : Array Oper) (i : Nat) : Option Tmp := (ops[i]?).bind (·.dst)
def runT (ops : Array Oper) : List AV → List Ent → List AV
  | tm, [] => tm
  | tm, x :: l => runT ops (put tm (dstI ops (idx x.1)) x.2.2) l
def runD (ops : Array Oper) (ls : Nat → Bool) : List AV → List Ent → List AV
  | tm, [] => tm
  | tm, x :: l => runD ops ls (if ls (idx x.1) then put tm (dstI ops (idx x.1)) x.2.2 else tm) l
section
variable {P : Program} {ops : Array Oper} {ls : Nat → Bool}
theorem runT_append (tm : List AV) (a b : List Ent) : runT ops tm (a ++ b) = runT ops (runT ops tm a) b := by
  induction a generalizing tm with
  | nil => rfl
  | cons x a ih => simp [runT, ih]
theorem runD_append (tm : List AV) (a b : List Ent) : runD ops ls tm (a ++ b) = runD ops ls (runD ops ls tm a) b := by
  induction a generalizing tm with
  | nil => rfl
  | cons x a ih => simp [runD, ih]
theorem put_getD_ne {tm : List AV} {dst : Option Tmp} {v e : AV} {d : Nat} (h : dst ≠ some d) : (put tm dst v).getD d e = tm.getD d e := by
  cases dst with
  | none => rfl
  | some t =>
    have : t ≠ d := fun e => h (by rw [e])
    simp [put, List.getD, List.getElem?_set_ne this]
theorem put_getD_congr {tm tm' : List AV} {dst : Option Tmp} {v e : AV} {d : Nat} (hl : tm.length = tm'.length) (h : tm.getD d e = tm'.getD d e) : (put tm dst v).getD d e = (put tm' dst v).getD d e := by
  cases dst with
  | none => exact h
  | some t =>
    by_cases ht : t = d
    · subst ht
      by_cases hlt : t < tm.length
      · have hlt' : t < tm'.length := hl ▸ hlt
        simp [put, List.getD, hlt, hlt']
      · have hlt' : ¬ t < tm'.length := hl ▸ hlt
        simp [put, List.getD, hlt, hlt']
    · rw [put_getD_ne (by simpa using ht), put_getD_ne (by simpa using ht), h]
theorem runD_len (tm : List AV) (l : List Ent) : (runD ops ls tm l).length = tm.length := by
  induction l generalizing tm with
  | nil => rfl
  | cons x l ih => rw [runD, ih]; split <;> simp [put_length]
theorem runT_len (tm : List AV) (l : List Ent) : (runT ops tm l).length = tm.length := by
  induction l generalizing tm with
  | nil => rfl
  | cons x l ih => rw [runT, ih, put_length]
theorem run_agree {d : Nat} {e : AV} (l : List Ent) : ∀ (tm tm' : List AV), (∀ x ∈ l, ls (idx x.1) = false → dstI ops (idx x.1) ≠ some d) → tm.length = tm'.length → tm.getD d e = tm'.getD d e → (runD ops ls tm l).getD d e = (runT ops tm' l).getD d e := by
  induction l with
  | nil => intro tm tm' _ _ h; exact h
  | cons x l ih =>
    intro tm tm' hx hl h
    rw [runD, runT]
    split
    · exact ih _ _ (fun y hy => hx y (by simp [hy])) (by simp [put_length, hl]) (put_getD_congr hl h)
    · rename_i hf
      exact ih _ _ (fun y hy => hx y (by simp [hy])) (by simp [put_length, hl]) (by rw [put_getD_ne (hx x (by simp) (by simpa using hf))]; exact h)
theorem runD_skip {d : Nat} {e : AV} (l : List Ent) : ∀ (tm : List AV), (∀ x ∈ l, ls (idx x.1) = true → dstI ops (idx x.1) ≠ some d) → (runD ops ls tm l).getD d e = tm.getD d e := by
  induction l with
  | nil => intro tm _; rfl
  | cons x l ih =>
    intro tm hx
    rw [runD, ih _ (fun y hy => hx y (by simp [hy]))]
    split
    · rename_i hf; exact put_getD_ne (hx x (by simp) hf)
    · rfl
theorem put_comm {tm : List AV} {a b : Option Tmp} {v u : AV} (h : ∀ d, a = some d → b ≠ some d) : put (put tm a v) b u = put (put tm b u) a v := by
  cases a with
  | none => rfl
  | some x =>
    cases b with
    | none => rfl
    | some y =>
      have : x ≠ y := fun e => h x rfl (by rw [e])
      simp [put, List.set_comm _ _ this]
theorem runD_put {dst : Option Tmp} {v : AV} (l : List Ent) : ∀ (tm : List AV), (∀ x ∈ l, ls (idx x.1) = true → ∀ d, dst = some d → dstI ops (idx x.1) ≠ some d) → runD ops ls (put tm dst v) l = put (runD ops ls tm l) dst v := by
  induction l with
  | nil => intro tm _; rfl
  | cons x l ih =>
    intro tm hx
    rw [runD, runD]
    split
    · rename_i hf
      rw [put_comm (fun d hd => hx x (by simp) hf d hd), ih _ (fun y hy => hx y (by simp [hy]))]
    · exact ih _ (fun y hy => hx y (by simp [hy]))
theorem runD_congr {ls' : Nat → Bool} (l : List Ent) : ∀ (tm : List AV), (∀ x ∈ l, ls (idx x.1) = ls' (idx x.1)) → runD ops ls tm l = runD ops ls' tm l := by
  induction l with
  | nil => intro tm _; rfl
  | cons x l ih => intro tm hx; rw [runD, runD, hx x (by simp), ih _ (fun y hy => hx y (by simp [hy]))]
theorem runD_none (l : List Ent) : ∀ (tm : List AV), (∀ x ∈ l, ls (idx x.1) = false) → runD ops ls tm l = tm := by
  induction l with
  | nil => intro tm _; rfl
  | cons x l ih => intro tm hx; rw [runD, hx x (by simp)]; exact ih _ (fun y hy => hx y (by simp [hy]))
theorem runD_all (l : List Ent) : ∀ (tm : List AV), (∀ x ∈ l, ls (idx x.1) = true) → runD ops ls tm l = runT ops tm l := by
  induction l with
  | nil => intro tm _; rfl
  | cons x l ih => intro tm hx; rw [runD, runT, hx x (by simp)]; exact ih _ (fun y hy => hx y (by simp [hy]))

/-! ### guards -/
def Take (ops : Array Oper) (o : Oper) (t : List AV) : Prop := match o.guard with
  | none => True
  | some (j, want) => ∃ d, guardTmp ops.toList j = some d ∧ t.getD d (.tup []) = .val (.bool want)
def Skip (ops : Array Oper) (o : Oper) (t : List AV) : Prop := match o.guard with
  | none => False
  | some (j, want) => ∃ d, guardTmp ops.toList j = some d ∧ (t.getD d (.tup []) = .val (.bool !want) ∨ t.getD d (.tup []) = .tup [])
theorem set_same {tm : List AV} {d : Nat} {x : AV} (hx : tm.getD d (.tup []) = x) : tm.set d x = tm := by
  by_cases hd : d < tm.length
  · rw [← hx]
    apply List.ext_getElem?
    intro j
    rw [List.getElem?_set]
    split
    · rename_i e; subst e; simp [List.getD, hd]
    · rfl
  · exact List.set_eq_of_length_le (by omega)
theorem adr_cons {s : Stp} {rest : List Stp} {tm : List AV} {h : Heap} {pend : Pend} {K : KO} {o : Oper} (ho : ops[idx s]? = some o) (hk : adr P ops.toList (s :: rest) tm h pend K) :
    (Skip ops o tm ∧ adr P ops.toList rest (put tm o.dst (.tup [])) h pend K) ∨
    (Take ops o tm ∧ (match s with
        | .q i => aop P o tm h fun v h' => adr P ops.toList rest (put tm o.dst v) h' (pendOf i o tm v ++ pend) K
        | .c _ re => aop P o tm h fun v h' => recheck P h' pend re ∧ adr P ops.toList rest (put tm o.dst v) h' pend K)) := by
  have fin : ∀ (run : List AV → Prop), (match o.guard with
      | none => run tm
      | some (j, want) => match guardTmp ops.toList j with
        | none => False
        | some d => agd want (fun _ => run (tm.set d (.val (.bool want)))) (fun _ => adr P ops.toList rest (put (tm.set d (.val (.bool !want))) o.dst (.tup [])) h pend K)
            (fun _ => adr P ops.toList rest (put tm o.dst (.tup [])) h pend K) (tm.getD d (.tup []))) →
      (Skip ops o tm ∧ adr P ops.toList rest (put tm o.dst (.tup [])) h pend K) ∨ (Take ops o tm ∧ run tm) := by
    intro run hk
    unfold Take Skip
    cases hgd : o.guard with
    | none => rw [hgd] at hk; exact .inr ⟨trivial, hk⟩
    | some g =>
      obtain ⟨j, want⟩ := g
      rw [hgd] at hk
      simp only at hk
      cases hd : guardTmp ops.toList j with
      | none => rw [hd] at hk; exact hk.elim
      | some d =>
        rw [hd] at hk
        simp only [agd] at hk
        split at hk
        · rename_i b hb
          by_cases hbw : b = want
          · subst hbw
            have := hk.1 (by simp)
            rw [set_same hb] at this
            exact .inr ⟨⟨d, hd, hb⟩, this⟩
          · have hb' : b = !want := by cases b <;> cases want <;> simp_all
            subst hb'
            have := hk.2 (by simp)
            rw [set_same hb] at this
            exact .inl ⟨⟨d, hd, .inl hb⟩, this⟩
        · rename_i hb
          exact .inl ⟨⟨d, hd, .inr hb⟩, hk⟩
        · exact hk.elim
  cases s with
  | q i =>
    have hg : ops.toList[i]? = some o := by rw [Array.getElem?_toList]; exact ho
    unfold adr at hk
    simp only [hg] at hk
    exact fin (fun tm => aop P o tm h fun v h' => adr P ops.toList rest (put tm o.dst v) h' (pendOf i o tm v ++ pend) K) hk
  | c i re =>
    have hg : ops.toList[i]? = some o := by rw [Array.getElem?_toList]; exact ho
    unfold adr at hk
    simp only [hg] at hk
    exact fin (fun tm => aop P o tm h fun v h' => recheck P h' pend re ∧ adr P ops.toList rest (put tm o.dst v) h' pend K) hk

/-- what is told to be made already, and as it was made -/
def Late (P : Program) (h : Heap) (o : Oper) (v : AV) : Prop := ∃ t z ob, o.op = .alloc t ∧ o.guard = none ∧ zAV P t = some z ∧ v = .ptr ob (flat z).length 0 0 [] ∧ h[ob]? = some (some (.arr t (flat z).length [z]))
/-- a step that can be taken now, with that outcome -/
def Ex (P : Program) (ops : Array Oper) (h : Heap) (x : Ent) : Prop := isC x.1 = false ∧ ∃ o, ops[idx x.1]? = some o ∧ ((Skip ops o x.2.1 ∧ x.2.2 = .tup []) ∨ (Take ops o x.2.1 ∧ quietOp o.op = true ∧ aop P o x.2.1 h (only x.2.2 h)) ∨ Late P h o x.2.2)
def CovL (ops : Array Oper) (pend : Pend) (x : Ent) : Prop := ∀ o ty a, ops[idx x.1]? = some o → Take ops o x.2.1 → o.op = .load ty a → (idx x.1, ty, rho x.2.1 a, x.2.2) ∈ pend
def CovA (ops : Array Oper) (pend : Pend) (x : Ent) : Prop := ∀ o ty, ops[idx x.1]? = some o → o.op = .alloc ty → (idx x.1, ty, .tup [], x.2.2) ∈ pend
def Cov (ops : Array Oper) (pend : Pend) (x : Ent) : Prop := isC x.1 = false → CovL ops pend x ∧ CovA ops pend x
theorem Cov.mono {ops : Array Oper} {pend : Pend} {x : Ent} (a : Pend) (h : Cov ops pend x) : Cov ops (a ++ pend) x := fun hc => ⟨fun o ty v h1 h2 h3 => List.mem_append_right _ ((h hc).1 o ty v h1 h2 h3), fun o ty h1 h2 => List.mem_append_right _ ((h hc).2 o ty h1 h2)⟩
def obOf : AV → Nat
  | .ptr o _ _ _ _ => o
  | _ => 0
theorem alAt_spec {ops : Array Oper} {i : Nat} {o : Oper} (h : alAt ops i = true) (ho : ops[i]? = some o) : ∃ t, o.op = .alloc t ∧ o.guard = none := by
  unfold alAt at h
  rw [ho] at h
  simp only [Bool.and_eq_true] at h
  obtain ⟨dst, op, type, pos, after, guard⟩ := o
  cases op <;> simp only [isAl] at h <;> first | cases h.1 | skip
  rename_i t
  exact ⟨t, rfl, by cases guard with | none => rfl | some g => simp at h⟩
theorem alS_of {ops : Array Oper} {s : Stp} (h : alS ops s = true) : isC s = false ∧ alAt ops (idx s) = true := by
  simp only [alS, Bool.and_eq_true, Bool.not_eq_true'] at h
  exact h
theorem quiet_alS {ops : Array Oper} {s : Stp} {o : Oper} (ho : ops[idx s]? = some o) (hq : quietOp o.op = true) : alS ops s = false := by
  simp only [alS, alAt, ho, quiet_al hq, Bool.false_and, Bool.and_false]
/-- each entry's temporaries are those that the entries ahead of it made -/
def TrOk (ops : Array Oper) (tm0 : List AV) (tr : List Ent) : Prop := ∀ a x b, tr = a ++ x :: b → x.2.1 = runT ops tm0 a
theorem TrOk.snoc {tm0 : List AV} {tr : List Ent} (h : TrOk ops tm0 tr) {x : Ent} (hx : x.2.1 = runT ops tm0 tr) : TrOk ops tm0 (tr ++ [x]) := by
  intro a y b he
  rcases List.eq_nil_or_concat b with rfl | ⟨b', z, rfl⟩
  · have := List.append_inj' he rfl
    obtain ⟨h1, h2⟩ := this
    cases h2
    rw [← h1]; exact hx
  · have he' : tr ++ [x] = (a ++ y :: b') ++ [z] := by simpa using he
    have := List.append_inj' he' rfl
    exact h a y b' this.1

theorem adr_advance {K : KO} {pr : List (List Nat)} (rest : List Stp) : ∀ (done : List Stp) (tm0 : List AV) (tr : List Ent) (h : Heap) (pend : Pend), chkGo ops pr done rest = true → ((∃ d ∈ done, alS ops d = false) ∨ ∀ s r, rest = s :: r → alS ops s = false) → TrOk ops tm0 tr → (∀ x ∈ tr, Cov ops pend x) →
    adr P ops.toList rest (runT ops tm0 tr) h pend K → ∃ tr' rest' pend', rest = tr'.map (·.1) ++ rest' ∧ (∀ s r, rest' = s :: r → isC s = true) ∧ TrOk ops tm0 (tr ++ tr') ∧ (∀ x ∈ tr ++ tr', Cov ops pend' x) ∧
      (∀ x ∈ tr', Ex P ops h x ∧ alS ops x.1 = false) ∧ adr P ops.toList rest' (runT ops tm0 (tr ++ tr')) h pend' K := by
  induction rest with
  | nil =>
    intro done tm0 tr h pend _ _ h1 h2 hk
    exact ⟨[], [], pend, rfl, by simp, by simpa using h1, by simpa using h2, by simp, by simpa using hk⟩
  | cons s rest ih =>
    intro done tm0 tr h pend hc hna h1 h2 hk
    by_cases hs : isC s = true
    · exact ⟨[], s :: rest, pend, rfl, fun s' r e => by cases e; exact hs, by simpa using h1, by simpa using h2, by simp, by simpa using hk⟩
    · have hs' : isC s = false := by simpa using hs
      obtain ⟨⟨o, so⟩, hc'⟩ := chkGo_cons hc
      have hq : quietOp o.op = true := (so.quiet hs').resolve_right fun ⟨k1, k2⟩ => hna.elim (fun ⟨d, hd, e⟩ => by rw [k2 d hd] at e; cases e) (fun f => by
        have := f s rest rfl
        simp only [alS, hs', k1] at this
        cases this)
      have hsa : alS ops s = false := quiet_alS so.get hq
      have hdst : dstI ops (idx s) = o.dst := by simp [dstI, so.get]
      have go : ∀ v pend2, (∀ x ∈ tr ++ [(s, runT ops tm0 tr, v)], Cov ops pend2 x) → Ex P ops h (s, runT ops tm0 tr, v) → adr P ops.toList rest (put (runT ops tm0 tr) o.dst v) h pend2 K →
          ∃ tr' rest' pend', s :: rest = tr'.map (·.1) ++ rest' ∧ (∀ s r, rest' = s :: r → isC s = true) ∧ TrOk ops tm0 (tr ++ tr') ∧ (∀ x ∈ tr ++ tr', Cov ops pend' x) ∧
            (∀ x ∈ tr', Ex P ops h x ∧ alS ops x.1 = false) ∧ adr P ops.toList rest' (runT ops tm0 (tr ++ tr')) h pend' K := by
        intro v pend2 hcv hex hk
        have hrun : runT ops tm0 (tr ++ [(s, runT ops tm0 tr, v)]) = put (runT ops tm0 tr) o.dst v := by
          rw [runT_append, runT, runT, hdst]
        rw [← hrun] at hk
        obtain ⟨tr', rest', pend', e1, e2, e3, e4, e5, e6⟩ := ih (done ++ [s]) tm0 (tr ++ [(s, runT ops tm0 tr, v)]) h pend2 hc' (.inl ⟨s, by simp, hsa⟩) (h1.snoc rfl) hcv hk
        refine ⟨(s, runT ops tm0 tr, v) :: tr', rest', pend', by simp [e1], e2, by simpa using e3, by simpa using e4, fun x hx => ?_, by simpa using e6⟩
        rcases List.mem_cons.1 hx with rfl | hx
        · exact ⟨hex, hsa⟩
        · exact e5 x hx
      have noAl : ∀ (v : AV) (pend2 : Pend), CovA ops pend2 (s, runT ops tm0 tr, v) := by
        intro v pend2 o' ty ho' hop
        simp only at ho'
        rw [so.get] at ho'; cases ho'
        have := quiet_al hq
        rw [hop] at this
        cases this
      rcases adr_cons so.get hk with ⟨hsk, hk⟩ | ⟨htk, hk⟩
      · refine go (.tup []) pend (fun x hx => ?_) ⟨hs', o, so.get, .inl ⟨hsk, rfl⟩⟩ hk
        rcases List.mem_append.1 hx with hx | hx
        · exact h2 x hx
        · simp at hx; subst hx
          refine fun _ => ⟨?_, noAl _ _⟩
          intro o' ty a ho' ht
          simp only at ho' ht
          rw [so.get] at ho'; cases ho'
          exfalso
          unfold Skip at hsk
          unfold Take at ht
          cases hg : o.guard with
          | none => rw [hg] at hsk; exact hsk
          | some g =>
            rw [hg] at hsk ht
            obtain ⟨d, k1, k2⟩ := hsk
            obtain ⟨d', k3, k4⟩ := ht
            rw [k1] at k3; cases k3
            rcases k2 with k2 | k2
            · rw [k2] at k4; simp at k4
            · rw [k2] at k4; cases k4
      · cases s with
        | c i re => simp [isC] at hs'
        | q i =>
          simp only at hk
          obtain ⟨v, k1, k2, -⟩ := aop_quiet hq hk
          refine go v _ (fun x hx => ?_) ⟨rfl, o, so.get, .inr (.inl ⟨htk, hq, k2⟩)⟩ k1
          rcases List.mem_append.1 hx with hx | hx
          · exact (h2 x hx).mono _
          · simp at hx; subst hx
            refine fun _ => ⟨?_, noAl _ _⟩
            intro o' ty a ho' ht hop
            simp only at ho' ht ⊢
            have : o' = o := by
              have := so.get
              simp only [idx] at ho' this
              rw [this] at ho'
              exact (Option.some.inj ho').symm
            subst this
            simp [pendOf, hop, idx]
/-- the makings that come ahead -/
structure Fr (ops : Array Oper) (n : Nat) (h : Heap) (tr : List Ent) : Prop where
  ge : ∀ x ∈ tr, alS ops x.1 = true → n ≤ obOf x.2.2
  lt : ∀ x ∈ tr, alS ops x.1 = true → obOf x.2.2 < h.length
  dist : ∀ x ∈ tr, ∀ y ∈ tr, alS ops x.1 = true → alS ops y.1 = true → obOf x.2.2 = obOf y.2.2 → idx x.1 = idx y.1
theorem Ex.app {h g : Heap} {x : Ent} (hx : isC x.1 = false ∧ ∃ o, ops[idx x.1]? = some o ∧ Late P h o x.2.2) : isC x.1 = false ∧ ∃ o, ops[idx x.1]? = some o ∧ Late P (h ++ g) o x.2.2 := by
  obtain ⟨h1, o, h2, t, z, ob, k1, k2, k3, k4, k5⟩ := hx
  refine ⟨h1, o, h2, t, z, ob, k1, k2, k3, k4, ?_⟩
  rw [List.getElem?_append_left (List.getElem?_eq_some_iff.1 k5).1]; exact k5
theorem adr_front {K : KO} {pr : List (List Nat)} {n : Nat} (rest : List Stp) : ∀ (done : List Stp) (tm0 : List AV) (tr : List Ent) (h : Heap) (pend : Pend), chkGo ops pr done rest = true → n ≤ h.length → TrOk ops tm0 tr → (∀ x ∈ tr, Cov ops pend x) →
    (∀ x ∈ tr, alS ops x.1 = true ∧ isC x.1 = false ∧ ∃ o, ops[idx x.1]? = some o ∧ Late P h o x.2.2) → Fr ops n h tr → adr P ops.toList rest (runT ops tm0 tr) h pend K →
    ∃ tr' rest' pend' g, rest = tr'.map (·.1) ++ rest' ∧ (∀ s r, rest' = s :: r → alS ops s = false) ∧ TrOk ops tm0 (tr ++ tr') ∧ (∀ x ∈ tr ++ tr', Cov ops pend' x) ∧
      (∀ x ∈ tr ++ tr', alS ops x.1 = true ∧ isC x.1 = false ∧ ∃ o, ops[idx x.1]? = some o ∧ Late P (h ++ g) o x.2.2) ∧ Fr ops n (h ++ g) (tr ++ tr') ∧ chkGo ops pr (done ++ tr'.map (·.1)) rest' = true ∧ adr P ops.toList rest' (runT ops tm0 (tr ++ tr')) (h ++ g) pend' K := by
  induction rest with
  | nil =>
    intro done tm0 tr h pend hc hn h1 h2 h3 h4 hk
    exact ⟨[], [], pend, [], rfl, by simp, by simpa using h1, by simpa using h2, by simpa using h3, by simpa using h4, by simpa using hc, by simpa using hk⟩
  | cons s rest ih =>
    intro done tm0 tr h pend hc hn h1 h2 h3 h4 hk
    by_cases hs : alS ops s = true
    · obtain ⟨⟨o, so⟩, hc'⟩ := chkGo_cons hc
      obtain ⟨hs1, hs2⟩ := alS_of hs
      obtain ⟨t, hop, hg⟩ := alAt_spec hs2 so.get
      have hdst : dstI ops (idx s) = o.dst := by simp [dstI, so.get]
      rcases adr_cons so.get hk with ⟨hsk, -⟩ | ⟨htk, hk⟩
      · unfold Skip at hsk; rw [hg] at hsk; exact hsk.elim
      · cases s with
        | c i re => simp [isC] at hs1
        | q i =>
          simp only at hk
          have hk' : aalloc P t h fun v h' => adr P ops.toList rest (put (runT ops tm0 tr) o.dst v) h' (pendOf i o (runT ops tm0 tr) v ++ pend) K := by
            obtain ⟨dst, op, type, pos, after, guard⟩ := o
            simp only at hop
            subst hop
            exact hk
          unfold aalloc at hk'
          split at hk'
          · rename_i z hz
            have hpe : pendOf i o (runT ops tm0 tr) (.ptr h.length (flat z).length 0 0 []) = [(i, t, .tup [], .ptr h.length (flat z).length 0 0 [])] := by
              unfold pendOf; rw [hop]
            have hrun : runT ops tm0 (tr ++ [(.q i, runT ops tm0 tr, .ptr h.length (flat z).length 0 0 [])]) = put (runT ops tm0 tr) o.dst (.ptr h.length (flat z).length 0 0 []) := by
              rw [runT_append, runT, runT, hdst]
            rw [← hrun, hpe] at hk'
            have hlen : (h ++ [some (AObj.arr t (flat z).length [z])]).length = h.length + 1 := by simp
            obtain ⟨tr', rest', pend', g, e1, e2, e3, e4, e5, e6, e7, e8⟩ := ih (done ++ [.q i]) tm0 (tr ++ [(.q i, runT ops tm0 tr, .ptr h.length (flat z).length 0 0 [])]) _ _ hc' (by rw [hlen]; omega) (h1.snoc rfl) (fun x hx => by
                rcases List.mem_append.1 hx with hx | hx
                · exact (h2 x hx).mono _
                · simp at hx; subst hx
                  refine fun _ => ⟨fun o' ty a ho' ht hop' => ?_, fun o' ty ho' hop' => ?_⟩
                  · simp only at ho'
                    rw [so.get] at ho'; cases ho'
                    rw [hop] at hop'; cases hop'
                  · simp only at ho'
                    rw [so.get] at ho'; cases ho'
                    rw [hop] at hop'; cases hop'
                    simp [idx]) (fun x hx => by
                rcases List.mem_append.1 hx with hx | hx
                · exact ⟨(h3 x hx).1, Ex.app (h3 x hx).2⟩
                · simp at hx; subst hx
                  exact ⟨hs, rfl, o, so.get, t, z, h.length, hop, hg, hz, rfl, by simp⟩) ⟨fun x hx ha => by
                rcases List.mem_append.1 hx with hx | hx
                · exact h4.ge x hx ha
                · simp at hx; subst hx; exact hn, fun x hx ha => by
                rw [hlen]
                rcases List.mem_append.1 hx with hx | hx
                · exact Nat.lt_succ_of_lt (h4.lt x hx ha)
                · simp at hx; subst hx; exact Nat.lt_succ_self _, fun x hx y hy ha hb e => by
                rcases List.mem_append.1 hx with hx | hx <;> rcases List.mem_append.1 hy with hy | hy
                · exact h4.dist x hx y hy ha hb e
                · have := h4.lt x hx ha
                  simp at hy; subst hy
                  have e' : obOf x.2.2 = h.length := e
                  omega
                · have := h4.lt y hy hb
                  simp at hx; subst hx
                  have e' : h.length = obOf y.2.2 := e
                  omega
                · simp at hx hy; subst hx; subst hy; rfl⟩ hk'
            refine ⟨(.q i, runT ops tm0 tr, .ptr h.length (flat z).length 0 0 []) :: tr', rest', pend', some (.arr t (flat z).length [z]) :: g, by simp [e1], e2, by simpa using e3, by simpa using e4, by simpa using e5, by simpa using e6, by simpa using e7, by simpa using e8⟩
          · exact hk'.elim
    · exact ⟨[], s :: rest, pend, [], rfl, fun s' r e => by cases e; simpa using hs, by simpa using h1, by simpa using h2, by simpa using h3, by simpa using h4, by simpa using hc, by simpa using hk⟩
end
end Go.Am
