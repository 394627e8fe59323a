/- A part of the proof that AliasThings and AliasMeets return true for every module: texts on an abstract reading of the code (AmDraw, AmDraw2, AmDraw3, AmDraw4). -/
import Derived.Test.YtdmaniffgdpfeaaXAmRet
set_option linter.unusedVariables false
set_option linter.unusedSimpArgs false
set_option linter.unusedSectionVars false
set_option linter.unusedVariables false
namespace Go.Am
open Go

/-! ### operations that change nothing -/
def quietOp : Op → Bool
  | .move _ | .assign _ | .pick .. | .fieldAddr .. | .indexAddr .. | .load .. | .binOp .. | .unOp .not .. | .unOp .neg .. | .convert .. | .nilCheck _ | .build .. | .slice .. | .makeFunc .. | .extract .. => true
  | .call { callee := .builtin .len, .. } | .call { callee := .builtin .cap, .. } => true
  | _ => false
def isLoad : Op → Bool
  | .load .. => true
  | _ => false
section
variable {P : Program} {o : Oper} {tm : List AV} {h : Heap} {K : AV → Heap → Prop}
def only (v : AV) (h : Heap) : AV → Heap → Prop := fun v' h' => v' = v ∧ h' = h
theorem aload_quiet {t x} (hk : aload P t h K x) : ∃ v, K v h ∧ aload P t h (only v h) x := by
  unfold aload at hk
  split at hk
  · exact ⟨_, hk.2, hk.1, rfl, rfl⟩
  · split at hk
    · rename_i ho
      obtain ⟨h1, h2, h3, hk⟩ := hk
      split at hk
      · rename_i y hy
        refine ⟨y, hk.2, ?_⟩
        simp only [aload, ho]
        refine ⟨h1, h2, h3, ?_⟩
        rw [hy]
        exact ⟨hk.1, rfl, rfl⟩
      · exact hk.elim
    · exact hk.elim
  · exact hk.elim
theorem abuildGo_quiet {ps} : ∀ {zs}, abuildGo h K zs ps → ∃ v, K v h ∧ ∀ h2, abuildGo h2 (only v h2) zs ps := by
  induction ps with
  | nil => intro zs hk; exact ⟨_, hk, fun h2 => ⟨rfl, rfl⟩⟩
  | cons p ps ih =>
    intro zs hk
    obtain ⟨i, x⟩ := p
    obtain ⟨v, h1, h2⟩ := ih hk.2
    exact ⟨v, h1, fun h3 => ⟨hk.1, h2 h3⟩⟩
/-- what a quiet operation comes to; one that reads no memory comes to it in every heap -/
theorem aop_quiet (hq : quietOp o.op = true) (hk : aop P o tm h K) : ∃ v, K v h ∧ aop P o tm h (only v h) ∧ (isLoad o.op = false → ∀ h2, aop P o tm h2 (only v h2)) := by
  obtain ⟨dst, op, type, pos, after, guard⟩ := o
  cases op <;> simp only [quietOp] at hq <;> first | cases hq | skip
  case move x => exact ⟨_, hk, ⟨rfl, rfl⟩, fun _ _ => ⟨rfl, rfl⟩⟩
  case assign x => exact ⟨_, hk, ⟨rfl, rfl⟩, fun _ _ => ⟨rfl, rfl⟩⟩
  case pick c a b =>
    simp only [aop, apick] at hk ⊢
    split at hk
    · rename_i t ht
      try simp only [ht]
      cases t
      · exact ⟨_, hk.2 rfl, AIf_intro (fun e => (by cases e)) (fun _ => ⟨rfl, rfl⟩), fun _ h2 => AIf_intro (fun e => (by cases e)) (fun _ => ⟨rfl, rfl⟩)⟩
      · exact ⟨_, hk.1 rfl, AIf_intro (fun _ => ⟨rfl, rfl⟩) (fun e => (by cases e)), fun _ h2 => AIf_intro (fun _ => ⟨rfl, rfl⟩) (fun e => (by cases e))⟩
    · exact hk.elim
  case fieldAddr s x f =>
    simp only [aop, afield] at hk ⊢
    split at hk
    · rename_i hx
      try simp only [hx]
      split at hk
      · rename_i n hf; (try simp only [hf]); exact ⟨_, hk, ⟨rfl, rfl⟩, fun _ _ => ⟨rfl, rfl⟩⟩
      · exact hk.elim
    · rename_i xs hx
      try simp only [hx]
      split at hk
      · rename_i n y hf hy; (try simp only [hf, hy]); exact ⟨_, hk.2, ⟨hk.1, rfl, rfl⟩, fun _ _ => ⟨hk.1, rfl, rfl⟩⟩
      · exact hk.elim
    · exact hk.elim
  case indexAddr t x i =>
    simp only [aop, aindex] at hk ⊢
    split at hk
    · rename_i h1 h2
      try simp only [h1, h2]
      exact ⟨_, hk.2.2, ⟨hk.1, hk.2.1, rfl, rfl⟩, fun _ _ => ⟨hk.1, hk.2.1, rfl, rfl⟩⟩
    · rename_i h1 h2
      try simp only [h1, h2]
      exact ⟨_, hk.2.2, ⟨hk.1, hk.2.1, rfl, rfl⟩, fun _ _ => ⟨hk.1, hk.2.1, rfl, rfl⟩⟩
    · rename_i h1 h2
      try simp only [h1, h2]
      simp only [aarrP] at hk ⊢
      split at hk
      · rename_i har
        try simp only [har]
        exact ⟨_, hk.2, ⟨hk.1, rfl, rfl⟩, fun _ _ => ⟨hk.1, rfl, rfl⟩⟩
      · exact hk.elim
    · exact hk.elim
  case load t x =>
    obtain ⟨v, h1, h2⟩ := aload_quiet hk
    exact ⟨v, h1, h2, fun e => by simp [isLoad] at e⟩
  case binOp op t x y u =>
    have key : ∀ {K : AV → Heap → Prop} {b}, aeqb op h K b → ∃ v, K v h ∧ aeqb op h (only v h) b ∧ ∀ h2, aeqb op h2 (only v h2) b := by
      intro K b hk
      cases op <;> first | exact ⟨_, hk, ⟨rfl, rfl⟩, fun _ => ⟨rfl, rfl⟩⟩ | exact hk.elim
    simp only [aop, abin] at hk ⊢
    split at hk
    · rename_i h1 h2
      try simp only [h1, h2]
      cases op <;> simp only at hk ⊢ <;> first
        | exact ⟨_, hk.2.2, ⟨hk.1, hk.2.1, rfl, rfl⟩, fun _ _ => ⟨hk.1, hk.2.1, rfl, rfl⟩⟩
        | exact ⟨_, hk.2, ⟨hk.1, rfl, rfl⟩, fun _ _ => ⟨hk.1, rfl, rfl⟩⟩
        | exact hk.elim
    all_goals first
      | (rename_i h1 h2
         try simp only [h1, h2]
         obtain ⟨v, k1, k2, k3⟩ := key hk.2
         exact ⟨v, k1, ⟨hk.1, k2⟩, fun _ h2 => ⟨hk.1, k3 h2⟩⟩)
      | exact hk.elim
  case unOp op t x =>
    cases op <;> simp at hq
    · simp only [aop, aneg] at hk ⊢
      split at hk
      · rename_i h1; (try simp only [h1]); exact ⟨_, hk, ⟨rfl, rfl⟩, fun _ _ => ⟨rfl, rfl⟩⟩
      · exact hk.elim
    · simp only [aop, anot] at hk ⊢
      split at hk
      · rename_i h1; (try simp only [h1]); exact ⟨_, hk, ⟨rfl, rfl⟩, fun _ _ => ⟨rfl, rfl⟩⟩
      · exact hk.elim
  case convert src d x =>
    simp only [aop, aconv] at hk ⊢
    split at hk
    · rename_i h1
      try simp only [h1]
      split at hk
      · rename_i h2 h3; (try simp only [h2, h3]); exact ⟨_, hk, ⟨rfl, rfl⟩, fun _ _ => ⟨rfl, rfl⟩⟩
      · exact hk.elim
    · exact hk.elim
  case nilCheck x =>
    simp only [aop, anil] at hk ⊢
    split at hk
    · rename_i h1; (try simp only [h1] at hk ⊢); exact ⟨_, hk, ⟨rfl, rfl⟩, fun _ _ => ⟨rfl, rfl⟩⟩
    · rename_i h1; (try simp only [h1] at hk ⊢); exact ⟨_, hk, ⟨rfl, rfl⟩, fun _ _ => ⟨rfl, rfl⟩⟩
    · rename_i h1; (try simp only [h1] at hk ⊢); exact ⟨_, hk, ⟨rfl, rfl⟩, fun _ _ => ⟨rfl, rfl⟩⟩
    · exact hk.elim
  case build t ps =>
    simp only [aop, abuild] at hk ⊢
    split at hk
    · rename_i h1
      try simp only [h1]
      obtain ⟨v, k1, k2⟩ := abuildGo_quiet hk
      exact ⟨v, k1, k2 h, fun _ => k2⟩
    · exact hk.elim
  case slice t x lo hi mx =>
    simp only [aop, aslice] at hk ⊢
    split at hk
    · exact hk.elim
    · rename_i h1
      try simp only [h1]
      split at hk
      · rename_i h2
        try simp only [h2]
        split at hk
        · rename_i h3
          try simp only [h3]
          split at hk
          · rename_i h4 h5; (try simp only [h4, h5]); exact ⟨_, hk.2.2, ⟨hk.1, hk.2.1, rfl, rfl⟩, fun _ _ => ⟨hk.1, hk.2.1, rfl, rfl⟩⟩
          · exact hk.elim
        · rename_i h3
          try simp only [h3]
          split at hk
          · rename_i h4 h5; (try simp only [h4, h5]); exact ⟨_, hk.2.2, ⟨hk.1, hk.2.1, rfl, rfl⟩, fun _ _ => ⟨hk.1, hk.2.1, rfl, rfl⟩⟩
          · exact hk.elim
        · rename_i h3
          try simp only [h3]
          split at hk
          · rename_i h4 h5; (try simp only [h4, h5]); exact ⟨_, hk.2.2, ⟨hk.1, hk.2.1, rfl, rfl⟩, fun _ _ => ⟨hk.1, hk.2.1, rfl, rfl⟩⟩
          · exact hk.elim
        · exact hk.elim
      · rename_i h2
        try simp only [h2]
        split at hk
        · rename_i h3 h4
          try simp only [h3, h4]
          obtain ⟨k1, hk⟩ := hk
          split at hk <;> first
            | (rename_i h5; (try simp only [h5]); exact ⟨_, hk, ⟨k1, rfl, rfl⟩, fun _ _ => ⟨k1, rfl, rfl⟩⟩)
            | exact hk.elim
        · exact hk.elim
      · exact hk.elim
  case makeFunc f first cap => exact ⟨_, hk, ⟨rfl, rfl⟩, fun _ _ => ⟨rfl, rfl⟩⟩
  case extract x i =>
    simp only [aop, aext] at hk ⊢
    split at hk
    · rename_i h1
      try simp only [h1]
      split at hk
      · rename_i h2; (try simp only [h2]); exact ⟨_, hk, ⟨rfl, rfl⟩, fun _ _ => ⟨rfl, rfl⟩⟩
      · exact hk.elim
    · exact hk.elim
  case call c =>
    obtain ⟨callee, args, ats⟩ := c
    cases callee with
    | value f => simp [quietOp] at hq
    | invoke f => simp [quietOp] at hq
    | builtin b =>
      have key : ∀ {K : AV → Heap → Prop} {x}, alen h K x → ∃ v, K v h ∧ alen h (only v h) x ∧ ∀ h2, alen h2 (only v h2) x := by
        intro K x hk
        unfold alen at hk
        split at hk <;> first | exact ⟨_, hk, ⟨rfl, rfl⟩, fun _ => ⟨rfl, rfl⟩⟩ | exact hk.elim
      have key2 : ∀ {K : AV → Heap → Prop} {x}, acap h K x → ∃ v, K v h ∧ acap h (only v h) x ∧ ∀ h2, acap h2 (only v h2) x := by
        intro K x hk
        unfold acap at hk
        split at hk <;> first | exact ⟨_, hk, ⟨rfl, rfl⟩, fun _ => ⟨rfl, rfl⟩⟩ | exact hk.elim
      have hb : b = .len ∨ b = .cap := by cases b <;> simp_all [quietOp]
      rcases hb with rfl | rfl
      · simp only [aop, abuiltin] at hk ⊢
        generalize args.toList.map (rho tm) = as at hk ⊢
        generalize ats.toList = ts at hk ⊢
        match as, ts, hk with
        | [x], [t], hk =>
          obtain ⟨v, k1, k2, k3⟩ := key hk.2
          exact ⟨v, k1, ⟨hk.1, k2⟩, fun _ h2 => ⟨hk.1, k3 h2⟩⟩
      · simp only [aop, abuiltin] at hk ⊢
        generalize args.toList.map (rho tm) = as at hk ⊢
        generalize ats.toList = ts at hk ⊢
        match as, ts, hk with
        | [x], [t], hk =>
          obtain ⟨v, k1, k2, k3⟩ := key2 hk.2
          exact ⟨v, k1, ⟨hk.1, k2⟩, fun _ h2 => ⟨hk.1, k3 h2⟩⟩
end
end Go.Am

set_option linter.unusedVariables false
namespace Go.Am
open Go
section
variable {P : Program} {o : Oper} {tm tm' : List AV} {h : Heap} {K : AV → Heap → Prop}
theorem parts_congr (ps : List (Nat × Operand)) (ht : ∀ p ∈ ps, rho tm p.2 = rho tm' p.2) : (ps.map fun p => (p.1, rho tm p.2)) = (ps.map fun p => (p.1, rho tm' p.2)) := List.map_congr_left fun p hp => by rw [ht p hp]
theorem aop_congr (ht : ∀ x ∈ o.op.operands, rho tm x = rho tm' x) : aop P o tm h K = aop P o tm' h K := by
  obtain ⟨dst, op, type, pos, after, guard⟩ := o
  cases op <;> simp only [Op.operands] at ht <;> simp only [aop]
  case move x => rw [ht x (by simp)]
  case assign x => rw [ht x (by simp)]
  case pick c a b => rw [ht c (by simp), ht a (by simp), ht b (by simp)]
  case fieldAddr s x f => rw [ht x (by simp)]
  case indexAddr t x i => rw [ht x (by simp), ht i (by simp)]
  case load t x => rw [ht x (by simp)]
  case store t x v => rw [ht x (by simp), ht v (by simp)]
  case binOp op t x y u => rw [ht x (by simp), ht y (by simp)]
  case unOp op t x => cases op <;> simp only [] <;> rw [ht x (by simp)]
  case convert src d x => rw [ht x (by simp)]
  case nilCheck x => rw [ht x (by simp)]
  case box e x => rw [ht x (by simp)]
  case build t ps => rw [parts_congr ps.toList fun p hp => ht _ (by simp; exact ⟨p.1, by simpa using hp⟩)]
  case buildSlice t n ps =>
    have : (ps.toList.map fun p => rho tm p.2) = (ps.toList.map fun p => rho tm' p.2) := List.map_congr_left fun p hp => ht _ (by simp; exact ⟨p.1, by simpa using hp⟩)
    rw [this]
  case makeSlice t l c => rw [ht l (by simp), ht c (by simp)]
  case slice t x lo hi mx =>
    rw [ht x (by simp)]
    have h1 : lo.map (rho tm) = lo.map (rho tm') := by cases lo with | none => rfl | some y => simp [ht y (by simp)]
    have h2 : hi.map (rho tm) = hi.map (rho tm') := by cases hi with | none => rfl | some y => simp [ht y (by simp)]
    have h3 : mx.map (rho tm) = mx.map (rho tm') := by cases mx with | none => rfl | some y => simp [ht y (by simp)]
    rw [h1, h2, h3]
  case makeFunc f first cap =>
    have h1 : first.toList.map (rho tm) = first.toList.map (rho tm') := List.map_congr_left fun x hx => ht x (by simp; exact .inl (by simpa using hx))
    have h2 : cap.toList.map (rho tm) = cap.toList.map (rho tm') := List.map_congr_left fun x hx => ht x (by simp; exact .inr (by simpa using hx))
    rw [h1, h2]
  case extract x i => rw [ht x (by simp)]
  case call c =>
    obtain ⟨callee, args, ats⟩ := c
    simp only [Call.operands] at ht
    have h1 : args.toList.map (rho tm) = args.toList.map (rho tm') := List.map_congr_left fun x hx => ht x (by simp; exact .inr (by simpa using hx))
    cases callee with
    | builtin b => simp only; rw [h1]
    | value f => simp only; rw [h1, ht f (by simp)]
    | invoke => rfl
theorem rho_get {x : Operand} (hx : ∀ t, x = .tmp t → tm.getD t (.tup []) = tm'.getD t (.tup [])) : rho tm x = rho tm' x := by
  cases x with
  | tmp t => exact hx t rfl
  | _ => rfl

/-! ### the static check -/
def nubC (x : Nat) (r : List Nat) : List Nat := if r.contains x then r else x :: r
def nub (l : List Nat) : List Nat := l.foldr nubC []
theorem mem_nub' (l : List Nat) : ∀ x : Nat, x ∈ nub l ↔ x ∈ l := by
  induction l with
  | nil => intro x; simp [nub]
  | cons y l ih =>
    intro x
    show x ∈ nubC y (nub l) ↔ _
    unfold nubC
    split
    · rename_i h
      rw [List.contains_iff_mem, ih] at h
      rw [ih, List.mem_cons]
      exact ⟨.inr, fun hx => hx.elim (fun e => e ▸ h) id⟩
    · rw [List.mem_cons, List.mem_cons, ih]
theorem mem_nub {x : Nat} {l : List Nat} : x ∈ nub l ↔ x ∈ l := mem_nub' l x
/-- what must come ahead of each operation -/
def presFrom : List Oper → List (List Nat) → List (List Nat)
  | [], acc => acc
  | o :: os, acc => presFrom os (acc ++ [nub ((o.after.toList.filter fun e => Region.binds .any e).flatMap fun e => e.on :: acc.getD e.on [])])
def pres (ops : List Oper) : List (List Nat) := presFrom ops []
def idx : Stp → Nat
  | .q i => i
  | .c i _ => i
def isC : Stp → Bool
  | .q _ => false
  | .c .. => true
/-- steps done already, the steps to come -/
def chkGo (ops : Array Oper) (pr : List (List Nat)) : List Stp → List Stp → Bool
  | _, [] => true
  | done, s :: rest =>
    (match ops[idx s]? with
    | none => false
    | some o =>
      ((pr.getD (idx s) []).all fun j => done.any fun d => idx d == j) &&
      (done.all fun d => !isC d || (pr.getD (idx s) []).contains (idx d)) &&
      (match s with
        | .q _ => quietOp o.op
        | .c i re => done.all fun d => isC d || (pr.getD i []).contains (idx d) || re.contains (idx d) || !((ops[idx d]?).map fun x => isLoad x.op).getD true) &&
      (done.all fun d => (pr.getD (idx s) []).contains (idx d) || match ops[idx d]? with
        | some x => Oper.apart ops x o
        | none => false)) && chkGo ops pr (done ++ [s]) rest
def chk (ops : Array Oper) (steps : List Stp) : Bool :=
  chkGo ops (pres ops.toList) [] steps && (List.range ops.size).all (fun i => (steps.map idx).contains i) && decide (steps.map idx).Nodup

theorem presFrom_pre (os : List Oper) : ∀ acc, ∃ r, presFrom os acc = acc ++ r := by
  induction os with
  | nil => exact fun acc => ⟨[], by simp [presFrom]⟩
  | cons o os ih =>
    intro acc
    obtain ⟨r, hr⟩ := ih (acc ++ [nub ((o.after.toList.filter fun e => Region.binds .any e).flatMap fun e => e.on :: acc.getD e.on [])])
    exact ⟨_, by rw [presFrom, hr, List.append_assoc]⟩
theorem presFrom_mem (os : List Oper) : ∀ acc t j, j ∈ (presFrom os acc).getD (acc.length + t) [] → ∃ o e, os[t]? = some o ∧ e ∈ o.after ∧ Region.binds .any e = true ∧ (j = e.on ∨ j ∈ (presFrom os acc).getD e.on []) := by
  induction os with
  | nil => intro acc t j hj; simp [presFrom] at hj
  | cons o os ih =>
    intro acc t j hj
    rw [presFrom] at hj ⊢
    cases t with
    | zero =>
      obtain ⟨r, hr⟩ := presFrom_pre os (acc ++ [nub ((o.after.toList.filter fun e => Region.binds .any e).flatMap fun e => e.on :: acc.getD e.on [])])
      rw [hr] at hj ⊢
      have : (acc ++ [nub ((o.after.toList.filter fun e => Region.binds .any e).flatMap fun e => e.on :: acc.getD e.on [])] ++ r).getD (acc.length + 0) [] = nub ((o.after.toList.filter fun e => Region.binds .any e).flatMap fun e => e.on :: acc.getD e.on []) := by
        simp [List.getD]
      rw [this, mem_nub, List.mem_flatMap] at hj
      obtain ⟨e, he, hj⟩ := hj
      rw [List.mem_filter] at he
      refine ⟨o, e, rfl, by simpa using he.1, he.2, ?_⟩
      rcases List.mem_cons.1 hj with rfl | hj
      · exact .inl rfl
      · right
        by_cases hlt : e.on < acc.length
        · have e1 : acc.getD e.on [] = acc[e.on] := by simp [List.getD, hlt]
          rw [e1] at hj
          have e2 : (acc ++ [nub ((o.after.toList.filter fun e => Region.binds .any e).flatMap fun e => e.on :: acc.getD e.on [])] ++ r).getD e.on [] = acc[e.on] := by
            rw [List.append_assoc]
            simp [List.getD, List.getElem?_append_left hlt, hlt]
          rw [e2]; exact hj
        · simp [List.getD, Nat.le_of_not_lt hlt] at hj
    | succ t =>
      have := ih (acc ++ [nub ((o.after.toList.filter fun e => Region.binds .any e).flatMap fun e => e.on :: acc.getD e.on [])]) t j (by simpa [Nat.add_assoc, Nat.add_comm 1 t] using hj)
      obtain ⟨o', e, h1, h2⟩ := this
      exact ⟨o', e, by simpa using h1, h2⟩
theorem pres_mem {ops : List Oper} {i j : Nat} (hj : j ∈ (pres ops).getD i []) : ∃ o e, ops[i]? = some o ∧ e ∈ o.after ∧ Region.binds .any e = true ∧ (j = e.on ∨ j ∈ (pres ops).getD e.on []) := by
  have := presFrom_mem ops [] i j (by rw [List.length_nil, Nat.zero_add]; exact hj)
  exact this
theorem presFrom_on (os : List Oper) : ∀ acc t o e, os[t]? = some o → e ∈ o.after → Region.binds .any e = true → e.on ∈ (presFrom os acc).getD (acc.length + t) [] := by
  induction os with
  | nil => intro acc t o e h; simp at h
  | cons o os ih =>
    intro acc t o' e ho he hb
    rw [presFrom]
    cases t with
    | zero =>
      simp at ho; subst ho
      obtain ⟨r, hr⟩ := presFrom_pre os (acc ++ [nub ((o.after.toList.filter fun e => Region.binds .any e).flatMap fun e => e.on :: acc.getD e.on [])])
      rw [hr]
      have : (acc ++ [nub ((o.after.toList.filter fun e => Region.binds .any e).flatMap fun e => e.on :: acc.getD e.on [])] ++ r).getD (acc.length + 0) [] = nub ((o.after.toList.filter fun e => Region.binds .any e).flatMap fun e => e.on :: acc.getD e.on []) := by
        simp [List.getD]
      rw [this, mem_nub, List.mem_flatMap]
      exact ⟨e, List.mem_filter.2 ⟨by simpa using he, hb⟩, by simp⟩
    | succ t =>
      have := ih (acc ++ [nub ((o.after.toList.filter fun e => Region.binds .any e).flatMap fun e => e.on :: acc.getD e.on [])]) t o' e (by simpa using ho) he hb
      simpa [Nat.add_assoc, Nat.add_comm 1 t] using this
theorem pres_on {ops : List Oper} {i : Nat} {o : Oper} {e : Edge} (ho : ops[i]? = some o) (he : e ∈ o.after) (hb : Region.binds .any e = true) : e.on ∈ (pres ops).getD i [] := by
  have := presFrom_on ops [] i o e ho he hb
  rw [List.length_nil, Nat.zero_add] at this
  exact this
/-- what is listed is closed downward -/
def Down (pr : List (List Nat)) (listed : Array Bool) : Prop := ∀ i, listed.getD i false = true → ∀ j ∈ pr.getD i [], listed.getD j false = true
theorem ready_pres {ops : Array Oper} {listed : Array Bool} (hd : Down (pres ops.toList) listed) {i : Nat} (hi : i ∈ Region.ready .any ops listed) : i < ops.size ∧ listed.getD i true = false ∧ ∀ j ∈ (pres ops.toList).getD i [], listed.getD j false = true := by
  unfold Region.ready at hi
  rw [List.mem_filter] at hi
  obtain ⟨h1, h2⟩ := hi
  have hlt : i < ops.size := by simpa using h1
  simp only [Bool.and_eq_true, Bool.not_eq_true'] at h2
  refine ⟨hlt, h2.1, fun j hj => ?_⟩
  obtain ⟨o, e, k1, k2, k3, k4⟩ := pres_mem hj
  rw [Array.getElem?_toList] at k1
  have h3 := h2.2
  rw [k1] at h3
  simp only [Option.map_some, Option.getD_some] at h3
  have h4 := (Array.all_eq_true'.1 h3) e k2
  simp only [k3, Bool.not_true, Bool.false_or] at h4
  rcases k4 with rfl | k4
  · exact h4
  · exact hd _ h4 j k4
/-- the facts of a step -/
structure StepOk (ops : Array Oper) (pr : List (List Nat)) (done : List Stp) (s : Stp) (o : Oper) : Prop where
  get : ops[idx s]? = some o
  pre : ∀ j ∈ pr.getD (idx s) [], ∃ d ∈ done, idx d = j
  chain : ∀ d ∈ done, isC d = true → idx d ∈ pr.getD (idx s) []
  quiet : isC s = false → quietOp o.op = true
  re : ∀ i re, s = .c i re → ∀ d ∈ done, isC d = false → idx d ∉ pr.getD i [] → (∀ x, ops[idx d]? = some x → isLoad x.op = true → idx d ∈ re)
  apart : ∀ d ∈ done, idx d ∉ pr.getD (idx s) [] → ∃ x, ops[idx d]? = some x ∧ Oper.apart ops x o = true
theorem chkGo_cons {ops : Array Oper} {pr : List (List Nat)} {done rest : List Stp} {s : Stp} (h : chkGo ops pr done (s :: rest) = true) : (∃ o, StepOk ops pr done s o) ∧ chkGo ops pr (done ++ [s]) rest = true := by
  simp only [chkGo, Bool.and_eq_true] at h
  refine ⟨?_, h.2⟩
  have h := h.1
  split at h
  · cases h
  · rename_i o ho
    simp only [Bool.and_eq_true, List.all_eq_true, List.any_eq_true, Bool.or_eq_true, Bool.not_eq_true', List.contains_iff_mem, beq_iff_eq] at h
    obtain ⟨⟨⟨h1, h2⟩, h3⟩, h4⟩ := h
    refine ⟨o, ho, h1, fun d hd hc => ?_, fun hc => ?_, fun i re hs d hd hc hn x hx hl => ?_, fun d hd hn => ?_⟩
    · rcases h2 d hd with h | h
      · rw [hc] at h; cases h
      · exact h
    · cases s with
      | q i => exact h3
      | c i re => cases hc
    · subst hs
      simp only [List.all_eq_true, Bool.or_eq_true, List.contains_iff_mem, Bool.not_eq_true'] at h3
      rcases h3 d hd with ((h | h) | h) | h
      · rw [hc] at h; cases h
      · exact absurd h hn
      · exact h
      · rw [hx] at h; simp [hl] at h
    · rcases h4 d hd with h | h
      · exact absurd h hn
      · split at h
        · rename_i x hx; exact ⟨x, hx, h⟩
        · cases h
end
end Go.Am

set_option linter.unusedVariables false
namespace Go.Am
open Go

abbrev Ent := Stp × List AV × AV
def dstI (ops : Array Oper) (i : Nat) : Option Tmp := (ops[i]?).bind (·.dst)
def runT (ops : Array Oper) : List AV → List Ent → List AV
  | tm, [] => tm
  | tm, x :: l => runT ops (put tm (dstI ops (idx x.1)) x.2.2) l
def runD (ops : Array Oper) (ls : Nat → Bool) : List AV → List Ent → List AV
  | tm, [] => tm
  | tm, x :: l => runD ops ls (if ls (idx x.1) then put tm (dstI ops (idx x.1)) x.2.2 else tm) l
section
variable {P : Program} {ops : Array Oper} {ls : Nat → Bool}
theorem runT_append (tm : List AV) (a b : List Ent) : runT ops tm (a ++ b) = runT ops (runT ops tm a) b := by
  induction a generalizing tm with
  | nil => rfl
  | cons x a ih => simp [runT, ih]
theorem runD_append (tm : List AV) (a b : List Ent) : runD ops ls tm (a ++ b) = runD ops ls (runD ops ls tm a) b := by
  induction a generalizing tm with
  | nil => rfl
  | cons x a ih => simp [runD, ih]
theorem put_getD_ne {tm : List AV} {dst : Option Tmp} {v e : AV} {d : Nat} (h : dst ≠ some d) : (put tm dst v).getD d e = tm.getD d e := by
  cases dst with
  | none => rfl
  | some t =>
    have : t ≠ d := fun e => h (by rw [e])
    simp [put, List.getD, List.getElem?_set_ne this]
theorem put_getD_congr {tm tm' : List AV} {dst : Option Tmp} {v e : AV} {d : Nat} (hl : tm.length = tm'.length) (h : tm.getD d e = tm'.getD d e) : (put tm dst v).getD d e = (put tm' dst v).getD d e := by
  cases dst with
  | none => exact h
  | some t =>
    by_cases ht : t = d
    · subst ht
      by_cases hlt : t < tm.length
      · have hlt' : t < tm'.length := hl ▸ hlt
        simp [put, List.getD, hlt, hlt']
      · have hlt' : ¬ t < tm'.length := hl ▸ hlt
        simp [put, List.getD, hlt, hlt']
    · rw [put_getD_ne (by simpa using ht), put_getD_ne (by simpa using ht), h]
theorem runD_len (tm : List AV) (l : List Ent) : (runD ops ls tm l).length = tm.length := by
  induction l generalizing tm with
  | nil => rfl
  | cons x l ih => rw [runD, ih]; split <;> simp [put_length]
theorem runT_len (tm : List AV) (l : List Ent) : (runT ops tm l).length = tm.length := by
  induction l generalizing tm with
  | nil => rfl
  | cons x l ih => rw [runT, ih, put_length]
theorem run_agree {d : Nat} {e : AV} (l : List Ent) : ∀ (tm tm' : List AV), (∀ x ∈ l, ls (idx x.1) = false → dstI ops (idx x.1) ≠ some d) → tm.length = tm'.length → tm.getD d e = tm'.getD d e → (runD ops ls tm l).getD d e = (runT ops tm' l).getD d e := by
  induction l with
  | nil => intro tm tm' _ _ h; exact h
  | cons x l ih =>
    intro tm tm' hx hl h
    rw [runD, runT]
    split
    · exact ih _ _ (fun y hy => hx y (by simp [hy])) (by simp [put_length, hl]) (put_getD_congr hl h)
    · rename_i hf
      exact ih _ _ (fun y hy => hx y (by simp [hy])) (by simp [put_length, hl]) (by rw [put_getD_ne (hx x (by simp) (by simpa using hf))]; exact h)
theorem runD_skip {d : Nat} {e : AV} (l : List Ent) : ∀ (tm : List AV), (∀ x ∈ l, ls (idx x.1) = true → dstI ops (idx x.1) ≠ some d) → (runD ops ls tm l).getD d e = tm.getD d e := by
  induction l with
  | nil => intro tm _; rfl
  | cons x l ih =>
    intro tm hx
    rw [runD, ih _ (fun y hy => hx y (by simp [hy]))]
    split
    · rename_i hf; exact put_getD_ne (hx x (by simp) hf)
    · rfl
theorem put_comm {tm : List AV} {a b : Option Tmp} {v u : AV} (h : ∀ d, a = some d → b ≠ some d) : put (put tm a v) b u = put (put tm b u) a v := by
  cases a with
  | none => rfl
  | some x =>
    cases b with
    | none => rfl
    | some y =>
      have : x ≠ y := fun e => h x rfl (by rw [e])
      simp [put, List.set_comm _ _ this]
theorem runD_put {dst : Option Tmp} {v : AV} (l : List Ent) : ∀ (tm : List AV), (∀ x ∈ l, ls (idx x.1) = true → ∀ d, dst = some d → dstI ops (idx x.1) ≠ some d) → runD ops ls (put tm dst v) l = put (runD ops ls tm l) dst v := by
  induction l with
  | nil => intro tm _; rfl
  | cons x l ih =>
    intro tm hx
    rw [runD, runD]
    split
    · rename_i hf
      rw [put_comm (fun d hd => hx x (by simp) hf d hd), ih _ (fun y hy => hx y (by simp [hy]))]
    · exact ih _ (fun y hy => hx y (by simp [hy]))
theorem runD_congr {ls' : Nat → Bool} (l : List Ent) : ∀ (tm : List AV), (∀ x ∈ l, ls (idx x.1) = ls' (idx x.1)) → runD ops ls tm l = runD ops ls' tm l := by
  induction l with
  | nil => intro tm _; rfl
  | cons x l ih => intro tm hx; rw [runD, runD, hx x (by simp), ih _ (fun y hy => hx y (by simp [hy]))]
theorem runD_none (l : List Ent) : ∀ (tm : List AV), (∀ x ∈ l, ls (idx x.1) = false) → runD ops ls tm l = tm := by
  induction l with
  | nil => intro tm _; rfl
  | cons x l ih => intro tm hx; rw [runD, hx x (by simp)]; exact ih _ (fun y hy => hx y (by simp [hy]))
theorem runD_all (l : List Ent) : ∀ (tm : List AV), (∀ x ∈ l, ls (idx x.1) = true) → runD ops ls tm l = runT ops tm l := by
  induction l with
  | nil => intro tm _; rfl
  | cons x l ih => intro tm hx; rw [runD, runT, hx x (by simp)]; exact ih _ (fun y hy => hx y (by simp [hy]))

/-! ### guards -/
def Take (ops : Array Oper) (o : Oper) (t : List AV) : Prop := match o.guard with
  | none => True
  | some (j, want) => ∃ d, guardTmp ops.toList j = some d ∧ t.getD d (.tup []) = .val (.bool want)
def Skip (ops : Array Oper) (o : Oper) (t : List AV) : Prop := match o.guard with
  | none => False
  | some (j, want) => ∃ d, guardTmp ops.toList j = some d ∧ (t.getD d (.tup []) = .val (.bool !want) ∨ t.getD d (.tup []) = .tup [])
theorem set_same {tm : List AV} {d : Nat} {x : AV} (hx : tm.getD d (.tup []) = x) : tm.set d x = tm := by
  by_cases hd : d < tm.length
  · rw [← hx]
    apply List.ext_getElem?
    intro j
    rw [List.getElem?_set]
    split
    · rename_i e; subst e; simp [List.getD, hd]
    · rfl
  · exact List.set_eq_of_length_le (by omega)
theorem adr_cons {s : Stp} {rest : List Stp} {tm : List AV} {h : Heap} {pend : Pend} {K : KO} {o : Oper} (ho : ops[idx s]? = some o) (hk : adr P ops.toList (s :: rest) tm h pend K) :
    (Skip ops o tm ∧ adr P ops.toList rest (put tm o.dst (.tup [])) h pend K) ∨
    (Take ops o tm ∧ (match s with
        | .q i => aop P o tm h fun v h' => adr P ops.toList rest (put tm o.dst v) h' (pendOf i o tm v ++ pend) K
        | .c _ re => aop P o tm h fun v h' => recheck P h' pend re ∧ adr P ops.toList rest (put tm o.dst v) h' pend K)) := by
  have fin : ∀ (run : List AV → Prop), (match o.guard with
      | none => run tm
      | some (j, want) => match guardTmp ops.toList j with
        | none => False
        | some d => agd want (fun _ => run (tm.set d (.val (.bool want)))) (fun _ => adr P ops.toList rest (put (tm.set d (.val (.bool !want))) o.dst (.tup [])) h pend K)
            (fun _ => adr P ops.toList rest (put tm o.dst (.tup [])) h pend K) (tm.getD d (.tup []))) →
      (Skip ops o tm ∧ adr P ops.toList rest (put tm o.dst (.tup [])) h pend K) ∨ (Take ops o tm ∧ run tm) := by
    intro run hk
    unfold Take Skip
    cases hgd : o.guard with
    | none => rw [hgd] at hk; exact .inr ⟨trivial, hk⟩
    | some g =>
      obtain ⟨j, want⟩ := g
      rw [hgd] at hk
      simp only at hk
      cases hd : guardTmp ops.toList j with
      | none => rw [hd] at hk; exact hk.elim
      | some d =>
        rw [hd] at hk
        simp only [agd] at hk
        split at hk
        · rename_i b hb
          by_cases hbw : b = want
          · subst hbw
            have := hk.1 (by simp)
            rw [set_same hb] at this
            exact .inr ⟨⟨d, hd, hb⟩, this⟩
          · have hb' : b = !want := by cases b <;> cases want <;> simp_all
            subst hb'
            have := hk.2 (by simp)
            rw [set_same hb] at this
            exact .inl ⟨⟨d, hd, .inl hb⟩, this⟩
        · rename_i hb
          exact .inl ⟨⟨d, hd, .inr hb⟩, hk⟩
        · exact hk.elim
  cases s with
  | q i =>
    have hg : ops.toList[i]? = some o := by rw [Array.getElem?_toList]; exact ho
    unfold adr at hk
    simp only [hg] at hk
    exact fin (fun tm => aop P o tm h fun v h' => adr P ops.toList rest (put tm o.dst v) h' (pendOf i o tm v ++ pend) K) hk
  | c i re =>
    have hg : ops.toList[i]? = some o := by rw [Array.getElem?_toList]; exact ho
    unfold adr at hk
    simp only [hg] at hk
    exact fin (fun tm => aop P o tm h fun v h' => recheck P h' pend re ∧ adr P ops.toList rest (put tm o.dst v) h' pend K) hk

/-- a step that can be taken now, with that outcome -/
def Ex (P : Program) (ops : Array Oper) (h : Heap) (x : Ent) : Prop := isC x.1 = false ∧ ∃ o, ops[idx x.1]? = some o ∧ ((Skip ops o x.2.1 ∧ x.2.2 = .tup []) ∨ (Take ops o x.2.1 ∧ quietOp o.op = true ∧ aop P o x.2.1 h (only x.2.2 h)))
def Cov (ops : Array Oper) (pend : Pend) (x : Ent) : Prop := isC x.1 = false → ∀ o ty a, ops[idx x.1]? = some o → Take ops o x.2.1 → o.op = .load ty a → (idx x.1, ty, rho x.2.1 a, x.2.2) ∈ pend
/-- each entry's temporaries are those that the entries ahead of it made -/
def TrOk (ops : Array Oper) (tm0 : List AV) (tr : List Ent) : Prop := ∀ a x b, tr = a ++ x :: b → x.2.1 = runT ops tm0 a
theorem TrOk.snoc {tm0 : List AV} {tr : List Ent} (h : TrOk ops tm0 tr) {x : Ent} (hx : x.2.1 = runT ops tm0 tr) : TrOk ops tm0 (tr ++ [x]) := by
  intro a y b he
  rcases List.eq_nil_or_concat b with rfl | ⟨b', z, rfl⟩
  · have := List.append_inj' he rfl
    obtain ⟨h1, h2⟩ := this
    cases h2
    rw [← h1]; exact hx
  · have he' : tr ++ [x] = (a ++ y :: b') ++ [z] := by simpa using he
    have := List.append_inj' he' rfl
    exact h a y b' this.1

theorem adr_advance {K : KO} {pr : List (List Nat)} (rest : List Stp) : ∀ (done : List Stp) (tm0 : List AV) (tr : List Ent) (h : Heap) (pend : Pend), chkGo ops pr done rest = true → TrOk ops tm0 tr → (∀ x ∈ tr, Cov ops pend x) →
    adr P ops.toList rest (runT ops tm0 tr) h pend K → ∃ tr' rest' pend', rest = tr'.map (·.1) ++ rest' ∧ (∀ s r, rest' = s :: r → isC s = true) ∧ TrOk ops tm0 (tr ++ tr') ∧ (∀ x ∈ tr ++ tr', Cov ops pend' x) ∧
      (∀ x ∈ tr', Ex P ops h x) ∧ adr P ops.toList rest' (runT ops tm0 (tr ++ tr')) h pend' K := by
  induction rest with
  | nil =>
    intro done tm0 tr h pend _ h1 h2 hk
    exact ⟨[], [], pend, rfl, by simp, by simpa using h1, by simpa using h2, by simp, by simpa using hk⟩
  | cons s rest ih =>
    intro done tm0 tr h pend hc h1 h2 hk
    by_cases hs : isC s = true
    · exact ⟨[], s :: rest, pend, rfl, fun s' r e => by cases e; exact hs, by simpa using h1, by simpa using h2, by simp, by simpa using hk⟩
    · have hs' : isC s = false := by simpa using hs
      obtain ⟨⟨o, so⟩, hc'⟩ := chkGo_cons hc
      have hdst : dstI ops (idx s) = o.dst := by simp [dstI, so.get]
      have go : ∀ v pend2, (∀ x ∈ tr ++ [(s, runT ops tm0 tr, v)], Cov ops pend2 x) → Ex P ops h (s, runT ops tm0 tr, v) → adr P ops.toList rest (put (runT ops tm0 tr) o.dst v) h pend2 K →
          ∃ tr' rest' pend', s :: rest = tr'.map (·.1) ++ rest' ∧ (∀ s r, rest' = s :: r → isC s = true) ∧ TrOk ops tm0 (tr ++ tr') ∧ (∀ x ∈ tr ++ tr', Cov ops pend' x) ∧
            (∀ x ∈ tr', Ex P ops h x) ∧ adr P ops.toList rest' (runT ops tm0 (tr ++ tr')) h pend' K := by
        intro v pend2 hcv hex hk
        have hrun : runT ops tm0 (tr ++ [(s, runT ops tm0 tr, v)]) = put (runT ops tm0 tr) o.dst v := by
          rw [runT_append, runT, runT, hdst]
        rw [← hrun] at hk
        obtain ⟨tr', rest', pend', e1, e2, e3, e4, e5, e6⟩ := ih (done ++ [s]) tm0 (tr ++ [(s, runT ops tm0 tr, v)]) h pend2 hc' (h1.snoc rfl) hcv hk
        refine ⟨(s, runT ops tm0 tr, v) :: tr', rest', pend', by simp [e1], e2, by simpa using e3, by simpa using e4, fun x hx => ?_, by simpa using e6⟩
        rcases List.mem_cons.1 hx with rfl | hx
        · exact hex
        · exact e5 x hx
      rcases adr_cons so.get hk with ⟨hsk, hk⟩ | ⟨htk, hk⟩
      · refine go (.tup []) pend (fun x hx => ?_) ⟨hs', o, so.get, .inl ⟨hsk, rfl⟩⟩ hk
        rcases List.mem_append.1 hx with hx | hx
        · exact h2 x hx
        · simp at hx; subst hx
          intro _ o' ty a ho' ht
          simp only at ho' ht
          rw [so.get] at ho'; cases ho'
          exfalso
          unfold Skip at hsk
          unfold Take at ht
          cases hg : o.guard with
          | none => rw [hg] at hsk; exact hsk
          | some g =>
            rw [hg] at hsk ht
            obtain ⟨d, k1, k2⟩ := hsk
            obtain ⟨d', k3, k4⟩ := ht
            rw [k1] at k3; cases k3
            rcases k2 with k2 | k2
            · rw [k2] at k4; simp at k4
            · rw [k2] at k4; cases k4
      · cases s with
        | c i re => simp [isC] at hs'
        | q i =>
          simp only at hk
          obtain ⟨v, k1, k2, -⟩ := aop_quiet (so.quiet rfl) hk
          refine go v _ (fun x hx => ?_) ⟨rfl, o, so.get, .inr ⟨htk, so.quiet rfl, k2⟩⟩ k1
          rcases List.mem_append.1 hx with hx | hx
          · intro a b c d e f g
            exact List.mem_append_right _ (h2 x hx a b c d e f g)
          · simp at hx; subst hx
            intro _ o' ty a ho' ht hop
            simp only at ho' ht ⊢
            have : o' = o := by
              have := so.get
              simp only [idx] at ho' this
              rw [this] at ho'
              exact (Option.some.inj ho').symm
            subst this
            simp [pendOf, hop, idx]
end
end Go.Am

set_option linter.unusedVariables false
namespace Go.Am
open Go
section
variable {P : Program} {ops : Array Oper}

theorem chkGo_at {pr : List (List Nat)} (a : List Stp) : ∀ (done : List Stp) {b : List Stp}, chkGo ops pr done (a ++ b) = true → chkGo ops pr (done ++ a) b = true := by
  induction a with
  | nil => intro done b h; simpa using h
  | cons s a ih =>
    intro done b h
    have := ih (done ++ [s]) (chkGo_cons h).2
    simpa using this
theorem stepOk_at {pr : List (List Nat)} {a b : List Stp} {s : Stp} (h : chkGo ops pr [] (a ++ s :: b) = true) : ∃ o, StepOk ops pr a s o := by
  have := chkGo_at a [] h
  rw [List.nil_append] at this
  exact (chkGo_cons this).1

theorem getD_set {listed : Array Bool} {i j : Nat} {d : Bool} (hi : i < listed.size) : (listed.setIfInBounds i true).getD j d = if j = i then true else listed.getD j d := by
  simp only [Array.getD_eq_getD_getElem?, Array.getElem?_setIfInBounds]
  by_cases h : i = j
  · subst h; simp [hi]
  · have : ¬ j = i := fun e => h e.symm
    simp [h, this]
theorem countP_dec {p p' : Nat → Bool} {i : Nat} (h1 : p i = true) (h2 : p' i = false) (h3 : ∀ j, j ≠ i → p' j = p j) (l : List Nat) : i ∈ l → l.countP p' < l.countP p := by
  have le : ∀ l : List Nat, l.countP p' ≤ l.countP p := fun l => List.countP_mono_left fun x _ hx => by
    by_cases e : x = i
    · subst e; exact h1
    · rw [← h3 x e]; exact hx
  induction l with
  | nil => intro h; cases h
  | cons x l ih =>
    intro hm
    by_cases e : x = i
    · subst e
      rw [List.countP_cons_of_pos h1, List.countP_cons_of_neg (by simp [h2])]
      exact Nat.lt_succ_of_le (le l)
    · have := ih ((List.mem_cons.1 hm).resolve_left fun e' => e e'.symm)
      simp only [List.countP_cons, h3 x e]
      split <;> omega

/-- an operation and its guard see the temporaries alike -/
structure Like (ops : Array Oper) (o : Oper) (tm tm' : List AV) : Prop where
  at_ : ∀ d ∈ o.looksAt ops, ∀ e, tm.getD d e = tm'.getD d e
theorem Like.aop {o : Oper} {tm tm' : List AV} {h : Heap} {K : AV → Heap → Prop} (l : Like ops o tm tm') (hk : aop P o tm h K) : aop P o tm' h K := by
  rwa [aop_congr (tm' := tm') fun x hx => rho_get fun t ht => l.at_ t (by
    subst ht
    exact List.mem_append_left _ (List.mem_filterMap.2 ⟨.tmp t, by simpa using hx, rfl⟩)) _] at hk
theorem guardTmp_looks {o : Oper} {j d : Nat} {want : Bool} (hg : o.guard = some (j, want)) (hd : guardTmp ops.toList j = some d) : d ∈ o.looksAt ops := by
  have hd : (ops[j]?).bind (·.dst) = some d := by
    unfold guardTmp gTmp dstOf at hd
    rw [Array.getElem?_toList] at hd
    cases hq : ops[j]? with
    | none => simp [hq] at hd
    | some o => simp [hq] at hd; simp [hd]
  refine List.mem_append_right _ ?_
  rw [hg]
  simp [hd]
theorem Like.take {o : Oper} {tm tm' : List AV} (l : Like ops o tm tm') (hk : Take ops o tm) : Take ops o tm' := by
  unfold Take at *
  split
  · trivial
  · rename_i j want hg
    rw [hg] at hk
    obtain ⟨d, h1, h2⟩ := hk
    exact ⟨d, h1, by rw [← l.at_ d (guardTmp_looks hg h1)]; exact h2⟩
theorem Like.skip {o : Oper} {tm tm' : List AV} (l : Like ops o tm tm') (hk : Skip ops o tm) : Skip ops o tm' := by
  unfold Skip at *
  split
  · rename_i hg; rw [hg] at hk; exact hk
  · rename_i j want hg
    rw [hg] at hk
    obtain ⟨d, h1, h2⟩ := hk
    exact ⟨d, h1, by rw [← l.at_ d (guardTmp_looks hg h1)]; exact h2⟩

theorem wanted_take {M0 : MM} {w0 : World} {n L : Nat} {tm : List AV} {h : Heap} {M : MM} {act : Act} {w : World} {o : Oper} (hr : Rl M0 w0 n L tm h M act w) (hk : Take ops o tm) : Region.wanted o (yielded ops act.tmps) = true := by
  unfold Take at hk
  unfold Region.wanted
  split at hk
  · rename_i hg; simp [hg]
  · rename_i j want hg
    obtain ⟨d, h1, h2⟩ := hk
    have := (yielded_of h1 hr.tmps).1 want h2
    simp [hg, this]
theorem wanted_skip {M0 : MM} {w0 : World} {n L : Nat} {tm : List AV} {h : Heap} {M : MM} {act : Act} {w : World} {o : Oper} (hr : Rl M0 w0 n L tm h M act w) (hk : Skip ops o tm) : Region.wanted o (yielded ops act.tmps) = false := by
  unfold Skip at hk
  unfold Region.wanted
  split at hk
  · exact hk.elim
  · rename_i j want hg
    obtain ⟨d, h1, h2⟩ := hk
    have := yielded_of h1 hr.tmps
    rcases h2 with h2 | h2
    · have := this.1 _ h2
      simp only [hg, this]
      cases want <;> rfl
    · have := this.2 h2
      simp [hg, this]
theorem Ex.move {h h' : Heap} {x : Ent} {pend : Pend} {re : List Nat} (hx : Ex P ops h x) (hc : Cov ops pend x) (hr : recheck P h' pend re) (hre : ∀ o, ops[idx x.1]? = some o → isLoad o.op = true → idx x.1 ∈ re) : Ex P ops h' x := by
  obtain ⟨hs, o, ho, h1⟩ := hx
  refine ⟨hs, o, ho, ?_⟩
  rcases h1 with h1 | ⟨h1, h2, h3⟩
  · exact .inl h1
  · refine .inr ⟨h1, h2, ?_⟩
    cases hl : isLoad o.op with
    | false =>
      obtain ⟨v, ⟨rfl, -⟩, -, k⟩ := aop_quiet h2 h3
      exact k hl h'
    | true =>
      have hre := hre o ho hl
      obtain ⟨dst, op, type, pos, after, guard⟩ := o
      cases op <;> simp only [isLoad] at hl <;> first | cases hl | skip
      rename_i ty a
      have hp := hc hs _ ty a ho h1 rfl
      have key : ∀ re, idx x.1 ∈ re → recheck P h' pend re → aload P ty h' (sameV x.2.2) (rho x.2.1 a) := by
        intro re
        induction re with
        | nil => intro h; cases h
        | cons j js ih =>
          intro hm hr
          rcases List.mem_cons.1 hm with e | hm
          · exact hr.1 _ hp e
          · exact ih hm hr.2
      obtain ⟨v, k1, k2⟩ := aload_quiet (key re hre hr)
      cases k1
      exact k2

/-- the state between two draws -/
structure J (P : Program) (ops : Array Oper) (steps : List Stp) (K : KO) (tm0 : List AV) (M0 : MM) (w0 : World) (n L : Nat) (listed : Array Bool) (act : Act) (w : World) (tr : List Ent) (rest : List Stp) (pend : Pend) (h : Heap) (M : MM) : Prop where
  split : steps = tr.map (·.1) ++ rest
  head : ∀ s r, rest = s :: r → isC s = true
  size : listed.size = ops.size
  inTr : ∀ i, listed.getD i false = true → ∃ x ∈ tr, idx x.1 = i
  chain : ∀ x ∈ tr, isC x.1 = true → listed.getD (idx x.1) false = true
  trOk : TrOk ops tm0 tr
  cov : ∀ x ∈ tr, Cov ops pend x
  ex : ∀ x ∈ tr, listed.getD (idx x.1) false = false → Ex P ops h x
  adr : adr P ops.toList rest (runT ops tm0 tr) h pend K
  rl : Rl M0 w0 n L (runD ops (listed.getD · false) tm0 tr) h M act w
  down : Down (pres ops.toList) listed

theorem Rl.drawn {M0 : MM} {w0 : World} {n L : Nat} {tm : List AV} {h : Heap} {M : MM} {act : Act} {w : World} (hr : Rl M0 w0 n L tm h M act w) : Rl M0 w0 n L tm h M act { w with drawn := w.drawn + 1 } := by
  have ev : Ev M w M { w with drawn := w.drawn + 1 } := ⟨Nat.le_refl _, fun _ _ _ => rfl, fun _ _ h => .inl h, fun _ h => h, fun _ h => .inl h, fun _ c _ _ _ h => ⟨c, h, rfl⟩, rfl, rfl, rfl⟩
  refine ⟨⟨fun o obj ho => ?_, hr.inv.dead, hr.inv.out, hr.inv.inj, hr.inv.lt⟩, hr.tmps.ev ev, hr.defers, hr.ev.trans ev, hr.abs, hr.le, hr.len⟩
  rcases hr.inv.live o obj ho with h1 | ⟨b, bo, h1, h2⟩
  · exact .inl h1
  · refine .inr ⟨b, bo, h1, ?_⟩
    cases obj with
    | arr e sz xs =>
      obtain ⟨k1, cells, k2, k3⟩ := h2
      refine ⟨k1, cells, k2, fun i x hx => ?_⟩
      obtain ⟨v, k4, k5⟩ := k3 i x hx
      exact ⟨v, k4, VRel.ev ev k5⟩
    | map kvs =>
      obtain ⟨es, clock, k1, k2, k3⟩ := h2
      refine ⟨es, clock, k1, k2, fun i kv e h3 h4 => ?_⟩
      obtain ⟨k4, k5⟩ := k3 i kv e h3 h4
      exact ⟨VRel.ev ev k4, VRel.ev ev k5⟩
end
end Go.Am
