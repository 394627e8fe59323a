/- A part of the proof that AliasThings and AliasMeets return true for every module: texts on an abstract reading of the code (AmS2, AmS3, AmS4). -/
import Derived.Test.YtdmaniffgdpfeaaXAmOps2
import Derived.Laws.CopyRow
import Derived.Laws.MakeOwn
import Derived.Deep.AppendSrc
set_option linter.unusedVariables false
set_option linter.unusedSimpArgs false
set_option linter.unusedSectionVars false
namespace Go.Am
open Go

section
variable {P : Program} {o : Oper} {tm : List AV} {h : Heap} {K : AV → Heap → Prop} {M : MM} {w : World} {act : Act} {next : Act → World → Prop} {Q : Exit → Act → World → Prop}

theorem Post.pure {y cv} (hk : K y h) (hi : Inv M h w) (hv : VRel M w y cv) : Post M w h.length K cv w :=
  ⟨y, h, M, hk, hi, hv, Ev.refl _ _, fun _ _ ho => ho, Nat.le_refl _⟩
theorem wp_value {cv w'} (hn : ∀ cv w', Post M w h.length K cv w' → next (act.put o.dst cv) w') (hr : (execOp act.eval o).run P w = .ok (.value cv) w') (hp : Post M w h.length K cv w') : o.wp P act w next Q := by
  unfold Oper.wp
  rw [hr, Oper.upon_value]
  exact hn _ _ hp
theorem wp_pure {y cv} (hi : Inv M h w) (hn : ∀ cv w', Post M w h.length K cv w' → next (act.put o.dst cv) w') (hr : (execOp act.eval o).run P w = .ok (.value cv) w) (hk : K y h) (hv : VRel M w y cv) : o.wp P act w next Q :=
  wp_value hn hr (.pure hk hi hv)

theorem vrel_int {k n cv} (h : VRel M w (.val (.int k n)) cv) : cv = .int k n := by
  cases h with
  | val => rfl
theorem vrel_bool {b cv} (h : VRel M w (.val (.bool b)) cv) : cv = .bool b := by
  cases h with
  | val => rfl
theorem vrel_val {v cv} (h : VRel M w (.val v) cv) : cv = v := by
  cases h with
  | val => rfl
theorem vrel_of_int {k n} : VRel M w (.val (.int k n)) (.int k n) := .val _ rfl
theorem vrel_of_bool {b} : VRel M w (.val (.bool b)) (.bool b) := .val _ rfl

/-! ### pick, field, index -/
theorem Inv.live_of {h : Heap} (hi : Inv M h w) {o obj} (ho : h[o]? = some (some obj)) {a} (hM : M o = .live a) : ∃ b bo, a = ⟨b, bo, none⟩ ∧ ObjRel M w b bo obj := by
  rcases hi.live o obj ho with h1 | ⟨b, bo, h1, h2⟩
  · rw [hM] at h1; cases h1
  · rw [hM] at h1
    cases h1
    exact ⟨b, bo, rfl, h2⟩
theorem Inv.not_dead {h : Heap} (hi : Inv M h w) {o obj} (ho : h[o]? = some (some obj)) (hM : M o = .dead) : False := by
  rcases hi.live o obj ho with h1 | ⟨b, bo, h1, h2⟩ <;> rw [hM] at h1 <;> cases h1
theorem fOff_spec {s f n} (h : fOff P s f = some n) : ∃ fs fd i, P.underlying s = some (.struct fs) ∧ fs[f]? = some fd ∧ fd.offset = n ∧ P.info? fd.type = some i ∧ i.size ≠ 0 := by
  unfold fOff at h
  split at h
  · rename_i fs hu
    split at h
    · rename_i fd hf
      split at h
      · cases h
      · rename_i hc
        cases h
        cases hi : P.info? fd.type with
        | none => simp [hi] at hc
        | some i =>
          simp [hi, Program.cellsOf] at hc
          exact ⟨fs, fd, i, hu, hf, rfl, hi, hc⟩
    · cases h
  · cases h
theorem run_field {s f n b off} (h : fOff P s f = some n) : (Instr.fieldAt s (.pointer (some ⟨b, off, none⟩)) f).run P w = .ok (.pointer (some ⟨b, off + n, none⟩)) w := by
  obtain ⟨fs, fd, i, h1, h2, rfl, h4, h5⟩ := fOff_spec h
  simp [Instr.fieldAt, run_underlying h1, h2, Instr.sureAddr, fieldPlace, sizeOf, typeInfo, h4, h5, Addr.add_lit]
theorem slElem_spec {t e} (h : slElem P t = some e) : P.underlying t = some (.slice e) ∧ ∃ i, P.info? e = some i ∧ szOf P e = i.size := by
  unfold slElem at h
  split at h
  · rename_i e' hu
    split at h
    · rename_i hs
      cases h
      obtain ⟨i, hi⟩ := Option.isSome_iff_exists.1 hs
      exact ⟨hu, i, hi, by simp [szOf, Program.cellsOf, hi]⟩
    · cases h
  · cases h
theorem run_index {t e c} {a : Addr} {len : Nat} {k : IntKind} {n : Int} (h : slElem P t = some e) (h0 : 0 ≤ n) (h1 : n < (len : Int)) :
    (Instr.indexAt t (.slice (some a) len c) (.int k n)).run P w = .ok (.pointer (some (a.add (n.toNat * szOf P e)))) w := by
  obtain ⟨hu, i, hi, hs⟩ := slElem_spec h
  simp [Instr.indexAt, run_underlying hu, asIntOf, h0, h1, sizeOf, typeInfo, hi, hs]

theorem arElem_spec {t n s} (h : arElem P t = some (n, s)) : ∃ e i, P.underlying t = some (.array n e) ∧ P.info? e = some i ∧ s = i.size := by
  unfold arElem at h
  split at h
  · rename_i m e hu
    split at h
    · rename_i hs
      cases h
      obtain ⟨i, hi⟩ := Option.isSome_iff_exists.1 hs
      exact ⟨e, i, hu, hi, by simp [Program.cellsOf, hi]⟩
    · cases h
  · cases h
theorem run_indexA {t len es} {a : Addr} {k : IntKind} {n : Int} (h : arElem P t = some (len, es)) (h0 : 0 ≤ n) (h1 : n < (len : Int)) :
    (Instr.indexAt t (.pointer (some a)) (.int k n)).run P w = .ok (.pointer (some (a.add (n.toNat * es)))) w := by
  obtain ⟨e, i, hu, hi, hs⟩ := arElem_spec h
  simp [Instr.indexAt, run_underlying hu, asIntOf, Instr.sureAddr, h0, h1, sizeOf, typeInfo, hi, hs]
theorem afield_sound {s f x} {cv : Value} (hk : afield P s f h K x) (hi : Inv M h w) (hv : VRel M w x cv) :
    ∃ y cv', (Instr.fieldAt s cv f).run P w = .ok cv' w ∧ K y h ∧ VRel M w y cv' := by
  cases x with
  | ptr o sz i k p =>
    simp only [afield] at hk
    split at hk
    · rename_i n hf
      cases hv with
      | ptr _ _ _ _ _ b bo hM =>
        refine ⟨_, _, run_field hf, hk, ?_⟩
        rw [show bo + i * sz + k + n = bo + i * sz + (k + n) by omega]
        exact .ptr o sz i (k + n) (p ++ [f]) b bo hM
      | ptrd _ _ _ _ _ a hM =>
        obtain ⟨fs, fd, j, h1, h2, rfl, h4, h5⟩ := fOff_spec hf
        exact ⟨_, .pointer (some (a.add fd.offset)), by simp [Instr.fieldAt, run_underlying h1, h2, Instr.sureAddr, fieldPlace, sizeOf, typeInfo, h4, h5], hk, .ptrd o sz i (k + fd.offset) (p ++ [f]) _ hM⟩
    · exact hk.elim
  | iptr x =>
    cases x with
    | agg xs =>
      simp only [afield] at hk
      split at hk
      · rename_i n y hf hy
        obtain ⟨hl, hk⟩ := hk
        cases hv with
        | iptr _ b off vs hvl hb hlt hc hr =>
          have hsp := flats_split hy
          have hfl : flat (.agg xs) = flats xs := rfl
          rw [hfl] at hvl hr
          have hlen : (flats xs).length = n + (flat y).length + (flats (xs.drop (f + 1))).length := by rw [hsp]; simp [hl]; omega
          refine ⟨_, _, run_field hf, hk, .iptr y b (off + n) ((vs.drop n).take (flat y).length) ?_ hb hlt ?_ ?_⟩
          · simp; omega
          · intro i v hi
            rw [List.getElem?_take] at hi
            split at hi
            · rw [List.getElem?_drop] at hi
              have := hc _ _ hi
              rwa [← Nat.add_assoc] at this
            · cases hi
          · intro i z v hz hvv
            have hlt : i < (flat y).length := (List.getElem?_eq_some_iff.1 hz).1
            rw [List.getElem?_take, if_pos hlt, List.getElem?_drop] at hvv
            refine hr (n + i) z v ?_ hvv
            rw [hsp, List.append_assoc, List.getElem?_append_right (by omega), hl, Nat.add_sub_cancel_left, List.getElem?_append_left hlt]
            exact hz
      · exact hk.elim
    | _ => exact hk.elim
  | _ => exact hk.elim

theorem aindex_sound {t x i} {cv ci : Value} (hk : aindex P t h K x i) (hi : Inv M h w) (hv : VRel M w x cv) (hvi : VRel M w i ci) :
    ∃ y cv', (Instr.indexAt t cv ci).run P w = .ok cv' w ∧ K y h ∧ VRel M w y cv' := by
  unfold aindex at hk
  split at hk
  · rename_i sz xs k n
    obtain ⟨hsz, ⟨h0, h1⟩, hk⟩ := hk
    obtain ⟨e, he, rfl⟩ := Option.map_eq_some_iff.1 hsz
    obtain rfl := vrel_int hvi
    have hn : n.toNat < xs.length := by omega
    have hne : xs ≠ [] := by intro e; subst e; simp at hn
    have hgd : xs.getD n.toNat .any = xs[n.toNat] := by simp [List.getD, hn]
    rw [hgd] at hk
    cases hv with
    | il _ _ a c vs hlc hu0 hvl hc hr =>
      have hu : ∀ x ∈ xs, (flat x).length = szOf P e := fun x hx => (hu0 x hx).1
      obtain ⟨b, off, rfl, hb, hlt, hcs⟩ := hc hne
      refine ⟨_, _, run_index he h0 h1, hk, ?_⟩
      rw [Addr.add_lit]
      have hle : n.toNat * szOf P e + szOf P e ≤ (flats xs).length := by
        rw [flats_length hu, ← Nat.succ_mul]
        exact Nat.mul_le_mul_right _ hn
      refine .iptr _ b _ ((vs.drop (n.toNat * szOf P e)).take (szOf P e)) ?_ hb hlt ?_ ?_
      · rw [hu _ (List.getElem_mem hn)]
        simp; omega
      · intro j v hj
        rw [List.getElem?_take] at hj
        split at hj
        · rw [List.getElem?_drop] at hj
          have := hcs _ _ hj
          rwa [← Nat.add_assoc] at this
        · cases hj
      · intro j z v hz hvv
        have hjlt : j < szOf P e := by
          have := (List.getElem?_eq_some_iff.1 hz).1
          rwa [hu _ (List.getElem_mem hn)] at this
        rw [List.getElem?_take, if_pos hjlt, List.getElem?_drop] at hvv
        exact hr _ z v (by rw [flats_get hu hn hjlt]; exact hz) hvv
  · rename_i o sz off len cap k n
    obtain ⟨hsz, ⟨h0, h1⟩, hk⟩ := hk
    obtain ⟨e, he, rfl⟩ := Option.map_eq_some_iff.1 hsz
    obtain rfl := vrel_int hvi
    cases hv with
    | sl _ _ _ _ _ b bo c a hM hlc hcap ha room =>
      refine ⟨_, _, run_index he h0 h1, hk, ?_⟩
      rw [ha (by omega), Addr.add_lit, show bo + off * szOf P e + n.toNat * szOf P e = bo + (off + n.toNat) * szOf P e + 0 by rw [Nat.add_mul]; omega]
      exact .ptr o _ _ 0 [] b bo hM
    | sld _ _ _ _ _ c a hM => exact ⟨_, _, run_index he h0 h1, hk, .ptrd o _ _ 0 [] _ hM⟩
  · rename_i o sz i' k p k' n
    unfold aarrP at hk
    split at hk
    · rename_i len es har
      obtain ⟨⟨h0, h1⟩, hk⟩ := hk
      obtain rfl := vrel_int hvi
      cases hv with
      | ptr _ _ _ _ _ b bo hM =>
        refine ⟨_, _, run_indexA har h0 h1, hk, ?_⟩
        rw [Addr.add_lit, show bo + i' * sz + k + n.toNat * es = bo + i' * sz + (k + n.toNat * es) by omega]
        exact .ptr o sz i' _ _ b bo hM
      | ptrd _ _ _ _ _ a hM => exact ⟨_, _, run_indexA har h0 h1, hk, .ptrd o sz i' _ _ _ hM⟩
    · exact hk.elim
  · exact hk.elim

theorem ObjRel.cells {b bo e sz xs} (h : ObjRel M w b bo (.arr e sz xs)) {i : Nat} (hi : i < xs.length) {y p k} (hs : (xs[i]).sub p = some y) (ho : (xs[i]).offs p = some k) :
    CellsRel M w b (bo + i * sz + k) (flat y) := by
  obtain ⟨hu, cells, hb, hc⟩ := h
  intro j z hz
  obtain ⟨l, r, he, hl⟩ := sub_flat hs ho
  have hj : j < (flat y).length := (List.getElem?_eq_some_iff.1 hz).1
  have hsz := (hu _ (List.getElem_mem hi)).1
  have hkj : k + j < sz := by rw [← hsz, he]; simp; omega
  have hget : (flat xs[i])[k + j]? = some z := by
    rw [he, List.append_assoc, List.getElem?_append_right (by omega), hl, Nat.add_sub_cancel_left, List.getElem?_append_left hj]
    exact hz
  obtain ⟨v, h1, h2⟩ := hc (i * sz + (k + j)) z (by rw [flats_get (fun x hx => (hu x hx).1) hi hkj]; exact hget)
  refine ⟨v, ?_, h2⟩
  have : bo + (i * sz + (k + j)) = bo + i * sz + k + j := by omega
  rw [this] at h1
  simp [World.cell?, hb, h1]

theorem aload_sound {t x} {cv : Value} (hk : aload P t h K x) (hi : Inv M h w) (hv : VRel M w x cv) :
    ∃ y cv', (Instr.loadAt t cv).run P w = .ok cv' w ∧ K y h ∧ VRel M w y cv' := by
  unfold aload at hk
  split at hk
  · rename_i y
    obtain ⟨hs, hk⟩ := hk
    cases hv with
    | iptr _ b off vs hvl hb hlt hc hr =>
      have hcr : CellsRel M w b off (flat y) := by
        intro j z hz
        have hj := (List.getElem?_eq_some_iff.1 hz).1
        have hv' : vs[j]? = some (vs[j]'(by omega)) := List.getElem?_eq_getElem _
        exact ⟨_, hc j _ hv', hr j z _ hz hv'⟩
      obtain ⟨cv', h1, h2⟩ := load_rel (P := P) (t := t) hcr hs
      exact ⟨y, cv', by simp [Instr.loadAt, Instr.sureAddr, h1], hk, h2⟩
  · rename_i o sz i k p
    split at hk
    · rename_i e s xs ho
      obtain ⟨rfl, hlt, hof, hk⟩ := hk
      have hgd : xs.getD i .any = xs[i] := by simp [List.getD, hlt]
      rw [hgd] at hof hk
      split at hk
      · rename_i y hsub
        obtain ⟨hs, hk⟩ := hk
        cases hv with
        | ptr _ _ _ _ _ b bo hM =>
          obtain ⟨b', bo', heq, hr⟩ := hi.live_of ho hM
          cases heq
          obtain ⟨cv', h1, h2⟩ := load_rel (P := P) (t := t) (hr.cells hlt hsub hof) hs
          exact ⟨y, cv', by simp [Instr.loadAt, Instr.sureAddr, h1], hk, h2⟩
        | ptrd _ _ _ _ _ a hM => exact (hi.not_dead ho hM).elim
      · exact hk.elim
    · exact hk.elim
  · exact hk.elim
end
end Go.Am

set_option linter.unusedVariables false
namespace Go.Am
open Go
section
variable {P : Program} {o : Oper} {tm : List AV} {h : Heap} {K : AV → Heap → Prop} {M : MM} {w : World} {act : Act} {next : Act → World → Prop} {Q : Exit → Act → World → Prop}

/-! ### a row that is written -/
theorem setRow_size (w : World) (b : Nat) (cs : Array Value) : (w.setRow b cs).heap.size = w.heap.size := by simp [World.setRow]
theorem Ev.setRow {b bo o : Nat} {old cs : Array Value} {e : TypeId} (hM : M o = .live ⟨b, bo, none⟩) (hb : w.heap[b]? = some (.cells old e (0, 0))) (hs : cs.size = old.size) : Ev M w M (w.setRow b cs) where
  size := by rw [setRow_size]; exact Nat.le_refl _
  same k hk hn := setRow_other w b k cs (fun e => hn ⟨o, _, hM, e.symm⟩)
  live _ _ ho := .inl ho
  dead _ ho := ho
  blk _ hk := .inl hk
  shape k cells e' fz hk hc := by
    by_cases hkb : k = b
    · subst hkb
      rw [hb] at hc
      cases hc
      exact ⟨cs, setRow_heap w k old cs e (0, 0) hb, hs⟩
    · exact ⟨cells, by rw [setRow_other w b k cs hkb]; exact hc, rfl⟩
  os := rfl
  tape := rfl
  output := rfl
theorem ObjRel.ev {M' w' b bo obj} (hr : ObjRel M w b bo obj) (hev : Ev M w M' w') (hb : w'.heap[b]? = w.heap[b]?) : ObjRel M' w' b bo obj := by
  cases obj with
  | arr e sz xs =>
    obtain ⟨hu, cells, hc, hx⟩ := hr
    exact ⟨hu, cells, by rw [hb]; exact hc, fun i x hi => let ⟨v, h1, h2⟩ := hx i x hi; ⟨v, h1, h2.ev hev⟩⟩
  | map kvs =>
    obtain ⟨es, cl, hc, hl, hx⟩ := hr
    exact ⟨es, cl, by rw [hb]; exact hc, hl, fun i kv e h1 h2 => let ⟨a, b⟩ := hx i kv e h1 h2; ⟨a.ev hev, b.ev hev⟩⟩
theorem Inv.setRow {b bo o : Nat} {old cs : Array Value} {e : TypeId} {obj obj' : AObj} (hi : Inv M h w) (ho : h[o]? = some (some obj)) (hM : M o = .live ⟨b, bo, none⟩) (hb : w.heap[b]? = some (.cells old e (0, 0))) (hs : cs.size = old.size)
    (hr : ObjRel M (w.setRow b cs) b bo obj') : Inv M (h.set o (some obj')) (w.setRow b cs) where
  live k obj2 hk := by
    rw [List.getElem?_set] at hk
    split at hk
    · rename_i e; subst e
      split at hk
      · cases hk; exact .inr ⟨b, bo, hM, hr⟩
      · cases hk
    · rename_i hne
      rcases hi.live k obj2 hk with h1 | ⟨b2, bo2, h1, h2⟩
      · exact .inl h1
      · refine .inr ⟨b2, bo2, h1, h2.ev (Ev.setRow hM hb hs) (setRow_other w b b2 cs (fun e => hne (hi.inj _ _ _ _ hM h1 e.symm)))⟩
  dead k hk := by
    rw [List.getElem?_set] at hk
    split at hk
    · split at hk <;> cases hk
    · exact hi.dead k hk
  out k hk := hi.out k (by simpa using hk)
  inj := hi.inj
  lt k a hk := by rw [setRow_size]; exact hi.lt k a hk

theorem storable_one {x : AV} (hs : storable x = true) {y} (hy : y ∈ flat x) {cv} (hv : VRel M w y cv) : cv.oneCell' = true :=
  hv.one (List.all_eq_true.1 hs y hy)
/-- a value's cells -/
theorem vcells {x : AV} {cv : Value} (hs : storable x = true) (hv : VRel M w x cv) : cv.cells.size = (flat x).length ∧ (∀ u ∈ cv.cells.toList, u.oneCell' = true) ∧ ∀ (i : Nat) y v, (flat x)[i]? = some y → cv.cells.toList[i]? = some v → VRel M w y v := by
  by_cases hx : ∃ xs, x = .agg xs
  · obtain ⟨xs, rfl⟩ := hx
    cases hv with
    | agg _ cs hl hr =>
      refine ⟨hl, ?_, fun i y v h1 h2 => hr i y v h1 (by simpa [Value.cells] using h2)⟩
      intro u hu
      obtain ⟨i, hi, rfl⟩ := List.mem_iff_getElem.1 hu
      have hi' : i < (flats xs).length := by simp [Value.cells] at hi; omega
      have hi2 : i < cs.size := by simpa [Value.cells] using hi
      have hh := hr i (flats xs)[i] cs[i] (List.getElem?_eq_getElem hi') (Array.getElem?_eq_getElem hi2)
      have := storable_one hs (by simp [flat]) hh
      simpa [Value.cells] using this
  · have hne : ∀ xs, x ≠ .agg xs := fun xs e => hx ⟨xs, e⟩
    rw [flat_leaf hne]
    have hone : cv.oneCell' = true := storable_one hs (by rw [flat_leaf hne]; simp) hv
    have hcs : cv.cells = #[cv] := by cases cv <;> first | rfl | (simp [Value.oneCell'] at hone)
    rw [hcs]
    refine ⟨rfl, fun u hu => by simp at hu; subst hu; exact hone, fun i y v h1 h2 => ?_⟩
    cases i with
    | zero => simp at h1 h2; subst h1; subst h2; exact hv
    | succ i => simp at h1

theorem flats_set_get {sz : Nat} {xs : List AV} {i : Nat} {z : AV} (hu : ∀ x ∈ xs, (flat x).length = sz) (hz : (flat z).length = sz) (hi : i < xs.length) (j : Nat) :
    (flats (xs.set i z))[j]? = if i * sz ≤ j ∧ j < i * sz + sz then (flat z)[j - i * sz]? else (flats xs)[j]? := by
  have hu' : ∀ x ∈ xs.set i z, (flat x).length = sz := by
    intro x hx
    rcases List.mem_or_eq_of_mem_set hx with h | h
    · exact hu x h
    · rw [h]; exact hz
  have l1 := flats_length hu
  have l2 := flats_length hu'
  by_cases h0 : sz = 0
  · subst h0
    have e1 : (flats xs).length = 0 := by simpa using l1
    have e2 : (flats (xs.set i z)).length = 0 := by simpa using l2
    rw [if_neg (by omega), List.getElem?_eq_none (by omega), List.getElem?_eq_none (by omega)]
  · have hpos : 0 < sz := by omega
    by_cases hj : j < xs.length * sz
    · have hq : j / sz < xs.length := (Nat.div_lt_iff_lt_mul hpos).2 hj
      have hm : j % sz < sz := Nat.mod_lt _ hpos
      have hd : j = j / sz * sz + j % sz := by rw [Nat.mul_comm]; exact (Nat.div_add_mod j sz).symm
      have g1 := flats_get hu' (i := j / sz) (by simpa using hq) hm
      have g2 := flats_get hu (i := j / sz) hq hm
      rw [← hd] at g1 g2
      rw [g1, g2]
      by_cases e : j / sz = i
      · subst e
        rw [if_pos (by omega)]
        simp only [List.getElem_set_self]
        congr 1; omega
      · rw [if_neg]
        · simp only [List.getElem_set_ne (Ne.symm e)]
        · rintro ⟨a, b⟩
          apply e
          have : j < (i + 1) * sz := by rw [Nat.add_mul]; omega
          have h1 : j / sz < i + 1 := (Nat.div_lt_iff_lt_mul hpos).2 this
          have h2 : i ≤ j / sz := (Nat.le_div_iff_mul_le hpos).2 a
          omega
    · have : i * sz + sz ≤ xs.length * sz := by rw [← Nat.succ_mul]; exact Nat.mul_le_mul_right _ hi
      rw [if_neg (by omega), List.getElem?_eq_none (by simp at l2; omega), List.getElem?_eq_none (by omega)]

theorem astore_sound {t x v} {cv cx : Value} (hk : astore P t h v K x) (hi : Inv M h w) (hv : VRel M w x cx) (hvv : VRel M w v cv) :
    ∃ w', (Instr.storeAt t cx cv).run P w = .ok () w' ∧ Post M w h.length K undef w' := by
  unfold astore at hk
  split at hk
  · rename_i o sz i k p
    split at hk
    · rename_i e s xs ho
      obtain ⟨rfl, hlt, hof, hk⟩ := hk
      have hgd : xs.getD i .any = xs[i] := by simp [List.getD, hlt]
      rw [hgd] at hof hk
      split at hk
      · rename_i y hsub
        obtain ⟨⟨hin, hnz⟩, hvl, hyl, hst, hk⟩ := hk
        split at hk
        · rename_i z hupd
          obtain ⟨ti, hti⟩ := Option.isSome_iff_exists.1 hin
          have hts : szOf P t = ti.size := by simp [szOf, Program.cellsOf, hti]
          cases hv with
          | ptr _ _ _ _ _ b bo hM =>
            obtain ⟨b', bo', heq, hr⟩ := hi.live_of ho hM
            cases heq
            have hr0 := hr
            obtain ⟨hu, cells, hb, hc⟩ := hr
            obtain ⟨l, r, hfx, hll, hfz⟩ := upd_flat hsub hof hupd
            obtain ⟨hcs, hone, hcr⟩ := vcells hst hvv
            have husz := (hu _ (List.getElem_mem hlt)).1
            have hu1 : ∀ x ∈ xs, (flat x).length = s := fun x hx => (hu x hx).1
            have hlen : l.length + (flat y).length + r.length = s := by rw [← husz, hfx]; simp; omega
            have hzl : (flat z).length = s := by rw [hfz]; simp; omega
            have hfit : bo + i * s + s ≤ cells.size := by
              have := hc (i * s + (s - 1)) ((flat xs[i])[s - 1]'(by omega)) (by rw [flats_get hu1 hlt (by omega)]; exact List.getElem?_eq_getElem _)
              obtain ⟨u, h1, _⟩ := this
              have := (Array.getElem?_eq_some_iff.1 h1).1
              omega
            have hvc : cv.cells.toList.length = (flat v).length := by simpa using hcs
            have hrun := run_storeCells_at P b (bo + i * s + k) e cv.cells.toList 0 cells w hb (by rw [hvc]; omega) hone
            have hrun' : (Instr.storeAt t (.pointer (some ⟨b, bo + i * s + k, none⟩)) cv).run P w = .ok () (w.setRow b (cells.toList.take (bo + i * s + k) ++ cv.cells.toList ++ cells.toList.drop (bo + i * s + k + cv.cells.toList.length)).toArray) := by
              simp only [Nat.add_zero] at hrun
              have hq : cv.cells.size = ti.size := by rw [hcs, hvl, hts]
              simp [Instr.storeAt, Instr.sureAddr, storeVar, sizeOf, typeInfo, hti, hq]
              rw [hrun]
              simp [hq]
            refine ⟨_, hrun', ?_⟩
            generalize hnew : (cells.toList.take (bo + i * s + k) ++ cv.cells.toList ++ cells.toList.drop (bo + i * s + k + cv.cells.toList.length)).toArray = cs'
            have hcs' : cs'.size = cells.size := by
              rw [← hnew]
              simp only [List.size_toArray, List.length_append, List.length_take, List.length_drop, Array.length_toList, hcs]
              omega
            have hev : Ev M w M (w.setRow b cs') := Ev.setRow hM hb hcs'
            have hget : ∀ j, cs'[j]? = if bo + i * s + k ≤ j ∧ j < bo + i * s + k + (flat v).length then cv.cells.toList[j - (bo + i * s + k)]? else cells[j]? := by
              intro j
              rw [← hnew, List.getElem?_toArray]
              have ht : (cells.toList.take (bo + i * s + k)).length = bo + i * s + k := by simp; omega
              split
              · rename_i hj
                rw [List.append_assoc, List.getElem?_append_right (by omega), ht, List.getElem?_append_left (by omega)]
              · rename_i hj
                by_cases hlo : j < bo + i * s + k
                · rw [List.append_assoc, List.getElem?_append_left (by omega), List.getElem?_take, if_pos hlo, Array.getElem?_toList]
                · rw [List.getElem?_append_right (by simp; omega), List.getElem?_drop, Array.getElem?_toList]
                  congr 1
                  simp [hcs] at hj ⊢
                  omega
            refine ⟨.tup [], h.set o (some (.arr e s (xs.set i z))), M, hk, hi.setRow ho hM hb hcs' ⟨?_, cs', setRow_heap w b cells cs' e (0, 0) hb, ?_⟩, vrel_undef, hev, fun _ _ ho => ho, by simp⟩
            · intro x hx
              rcases List.mem_or_eq_of_mem_set hx with hx | hx
              · exact hu x hx
              · subst hx
                refine ⟨hzl, ?_⟩
                have hsx := (hu _ (List.getElem_mem hlt)).2
                simp only [storable, hfx, hfz, List.all_append, Bool.and_eq_true] at hsx hst ⊢
                exact ⟨⟨hsx.1.1, hst⟩, hsx.2⟩
            · intro j x hj
              rw [flats_set_get hu1 hzl hlt] at hj
              rw [hget]
              split at hj
              · rename_i hjr
                rw [hfz, List.append_assoc] at hj
                by_cases c1 : j - i * s < k
                · rw [List.getElem?_append_left (by omega)] at hj
                  have hj0 : (flat xs[i])[j - i * s]? = some x := by
                    rw [hfx, List.append_assoc, List.getElem?_append_left (by omega)]; exact hj
                  obtain ⟨u, h1, h2⟩ := hc j x (by
                    have := flats_get hu1 hlt (j := j - i * s) (by omega)
                    rw [show i * s + (j - i * s) = j by omega] at this
                    rw [this]; exact hj0)
                  exact ⟨u, by rw [if_neg (by omega)]; exact h1, h2.ev hev⟩
                · rw [List.getElem?_append_right (by omega)] at hj
                  by_cases c2 : j - i * s < k + (flat v).length
                  · rw [List.getElem?_append_left (by omega)] at hj
                    rw [if_pos (by omega)]
                    have hex : bo + j - (bo + i * s + k) = j - i * s - l.length := by omega
                    rw [hex]
                    have hlt2 : j - i * s - l.length < cv.cells.toList.length := by omega
                    exact ⟨_, List.getElem?_eq_getElem hlt2, (hcr _ x _ hj (List.getElem?_eq_getElem hlt2)).ev hev⟩
                  · rw [List.getElem?_append_right (by omega)] at hj
                    have hj0 : (flat xs[i])[j - i * s]? = some x := by
                      rw [hfx, List.append_assoc, List.getElem?_append_right (by omega), List.getElem?_append_right (by omega)]
                      rw [← hj]; congr 1; omega
                    obtain ⟨u, h1, h2⟩ := hc j x (by
                      have := flats_get hu1 hlt (j := j - i * s) (by omega)
                      rw [show i * s + (j - i * s) = j by omega] at this
                      rw [this]; exact hj0)
                    exact ⟨u, by rw [if_neg (by omega)]; exact h1, h2.ev hev⟩
              · rename_i hjr
                obtain ⟨u, h1, h2⟩ := hc j x hj
                exact ⟨u, by rw [if_neg (by omega)]; exact h1, h2.ev hev⟩
          | ptrd _ _ _ _ _ a hM => exact (hi.not_dead ho hM).elim
        · exact hk.elim
      · exact hk.elim
    · exact hk.elim
  · exact hk.elim
end
end Go.Am

set_option linter.unusedVariables false
namespace Go.Am
open Go
section
variable {P : Program} {o : Oper} {tm : List AV} {h : Heap} {K : AV → Heap → Prop} {M : MM} {w : World} {act : Act} {next : Act → World → Prop} {Q : Exit → Act → World → Prop}

/-! ### numbers and truth -/
theorem isPtrT_spec {t} (h : isPtrT P t = true) : ∃ e, P.underlying t = some (.pointer e) := by
  unfold isPtrT at h
  split at h
  · exact ⟨_, by assumption⟩
  · cases h
theorem aeqb_sound {op : BinOp} {t : TypeId} {cx cy : Value} {ox oy : Operand} {b : Bool} (hk : aeqb op h K b) (he : ∀ d : Nat, (Op.equalIn (d + 1) t cx cy).run P w = .ok b w)
    (hg : ∀ op, eqGuard op t ox oy cx cy = if !(op matches .eql | .neq) then pure () else pure ()) (h1 : binOp .eql t cx cy = (do pure (.bool (← Op.equal t cx cy)))) (h2 : binOp .neq t cx cy = (do pure (.bool (!(← Op.equal t cx cy))))) :
    ∃ z cz, ((do eqGuard op t ox oy cx cy; binOp op t cx cy : Sem Value)).run P w = .ok cz w ∧ K z h ∧ VRel M w z cz := by
  have hq : (Op.equal t cx cy).run P w = .ok b w := he 9999
  have hg' : ∀ op, (eqGuard op t ox oy cx cy).run P w = .ok () w := fun op => by rw [hg]; split <;> rfl
  unfold aeqb at hk
  split at hk
  · exact ⟨_, _, by rw [Sem.run_bind, hg', h1]; simp [hq], hk, vrel_of_bool⟩
  · exact ⟨_, _, by rw [Sem.run_bind, hg', h2]; simp [hq], hk, vrel_of_bool⟩
  · exact hk.elim
theorem abin_sound {op : BinOp} {t : TypeId} {x y : AV} {cx cy : Value} {ox oy : Operand} (hk : abin P t op h K x y) (hx : VRel M w x cx) (hy : VRel M w y cy) :
    ∃ z cz, ((do eqGuard op t ox oy cx cy; binOp op t cx cy : Sem Value)).run P w = .ok cz w ∧ K z h ∧ VRel M w z cz := by
  unfold abin at hk
  split at hk
  · rename_i k a k' b
    obtain rfl := vrel_int hx
    obtain rfl := vrel_int hy
    cases op <;> simp only at hk
    case add => obtain ⟨rfl, hk⟩ := hk; exact ⟨_, _, by simp [eqGuard, binOp, Op.intArith], hk, vrel_of_int⟩
    case sub => obtain ⟨rfl, hk⟩ := hk; exact ⟨_, _, by simp [eqGuard, binOp, Op.intArith], hk, vrel_of_int⟩
    case mul => obtain ⟨rfl, hk⟩ := hk; exact ⟨_, _, by simp [eqGuard, binOp, Op.intArith], hk, vrel_of_int⟩
    case quo => obtain ⟨rfl, hb, hk⟩ := hk; exact ⟨_, _, by simp [eqGuard, binOp, Op.intDiv, hb], hk, vrel_of_int⟩
    case rem => obtain ⟨rfl, hb, hk⟩ := hk; exact ⟨_, _, by simp [eqGuard, binOp, Op.intDiv, hb], hk, vrel_of_int⟩
    case and => obtain ⟨rfl, hk⟩ := hk; exact ⟨_, _, by simp [eqGuard, binOp, Op.intBits], hk, vrel_of_int⟩
    case or => obtain ⟨rfl, hk⟩ := hk; exact ⟨_, _, by simp [eqGuard, binOp, Op.intBits], hk, vrel_of_int⟩
    case xor => obtain ⟨rfl, hk⟩ := hk; exact ⟨_, _, by simp [eqGuard, binOp, Op.intBits], hk, vrel_of_int⟩
    case shl => obtain ⟨hb, hk⟩ := hk; exact ⟨_, _, by simp [eqGuard, binOp, Op.shift, Int.not_lt.2 hb], hk, vrel_of_int⟩
    case shr => obtain ⟨hb, hk⟩ := hk; exact ⟨_, _, by simp [eqGuard, binOp, Op.shift, Int.not_lt.2 hb], hk, vrel_of_int⟩
    case eql => obtain ⟨rfl, hk⟩ := hk; exact ⟨_, _, by simp [eqGuard, binOp, Op.intCmp], hk, vrel_of_bool⟩
    case neq => obtain ⟨rfl, hk⟩ := hk; exact ⟨_, _, by simp [eqGuard, binOp, Op.intCmp], hk, vrel_of_bool⟩
    case lss => obtain ⟨rfl, hk⟩ := hk; exact ⟨_, _, by simp [eqGuard, binOp, Op.intCmp], hk, vrel_of_bool⟩
    case leq => obtain ⟨rfl, hk⟩ := hk; exact ⟨_, _, by simp [eqGuard, binOp, Op.intCmp], hk, vrel_of_bool⟩
    case gtr => obtain ⟨rfl, hk⟩ := hk; exact ⟨_, _, by simp [eqGuard, binOp, Op.intCmp], hk, vrel_of_bool⟩
    case geq => obtain ⟨rfl, hk⟩ := hk; exact ⟨_, _, by simp [eqGuard, binOp, Op.intCmp], hk, vrel_of_bool⟩
    all_goals exact hk.elim
  · rename_i a b
    obtain rfl := vrel_bool hx
    obtain rfl := vrel_bool hy
    obtain ⟨ht, hk⟩ := hk
    refine aeqb_sound hk (fun d => ?_) (fun op => rfl) rfl rfl
    unfold isBoolT at ht
    split at ht
    · rename_i hu; simp [Op.equalIn, run_underlying hu]
    · cases ht
  · obtain ⟨ht, hk⟩ := hk
    obtain rfl := vrel_val hy
    obtain ⟨e, he⟩ := Option.isSome_iff_exists.1 ht
    obtain ⟨hu, -⟩ := slElem_spec he
    cases hx <;> exact aeqb_sound hk (fun d => by simp [Op.equalIn, run_underlying hu]) (fun op => rfl) rfl rfl
  · obtain ⟨ht, hk⟩ := hk
    obtain rfl := vrel_val hy
    obtain rfl := vrel_val hx
    obtain ⟨e, he⟩ := Option.isSome_iff_exists.1 ht
    obtain ⟨hu, -⟩ := slElem_spec he
    exact aeqb_sound hk (fun d => by simp [Op.equalIn, run_underlying hu]) (fun op => rfl) rfl rfl
  · obtain ⟨ht, hk⟩ := hk
    obtain rfl := vrel_val hy
    obtain ⟨e, hu⟩ := isPtrT_spec ht
    cases hx <;> exact aeqb_sound hk (fun d => by simp [Op.equalIn, run_underlying hu]) (fun op => rfl) rfl rfl
  · obtain ⟨ht, hk⟩ := hk
    obtain rfl := vrel_val hy
    obtain ⟨e, hu⟩ := isPtrT_spec ht
    cases hx
    exact aeqb_sound hk (fun d => by simp [Op.equalIn, run_underlying hu]) (fun op => rfl) rfl rfl
  · obtain ⟨ht, hk⟩ := hk
    obtain rfl := vrel_val hy
    obtain rfl := vrel_val hx
    obtain ⟨e, hu⟩ := isPtrT_spec ht
    exact aeqb_sound hk (fun d => by simp [Op.equalIn, run_underlying hu]) (fun op => rfl) rfl rfl
  · exact hk.elim

/-! ### what is made -/
def MM.with (M : MM) (n : Nat) (s : MS) : MM := fun k => if k = n then s else M k
theorem alloc_get (w : World) (ob : Obj) (k : Nat) (hk : k < w.heap.size) : (w.alloc ob).heap[k]? = w.heap[k]? := by
  show (w.heap.push ob)[k]? = _
  rw [Array.getElem?_push, if_neg (Nat.ne_of_lt hk)]
theorem alloc_new (w : World) (ob : Obj) : (w.alloc ob).heap[w.heap.size]? = some ob := by
  show (w.heap.push ob)[w.heap.size]? = _
  simp
theorem alloc_size (w : World) (ob : Obj) : (w.alloc ob).heap.size = w.heap.size + 1 := by
  show (w.heap.push ob).size = _
  simp
theorem Ev.alloc (hi : Inv M h w) (ob : Obj) : Ev M w (M.with h.length (.live ⟨w.heap.size, 0, none⟩)) (w.alloc ob) where
  size := by rw [alloc_size]; omega
  same b hb _ := alloc_get w ob b hb
  live k a hk := by
    left
    have : k ≠ h.length := by
      rintro rfl
      rw [hi.out _ (Nat.le_refl _)] at hk; cases hk
    simp [MM.with, this, hk]
  dead k hk := by
    have : k ≠ h.length := by
      rintro rfl
      rw [hi.out _ (Nat.le_refl _)] at hk; cases hk
    simp [MM.with, this, hk]
  blk b hb := by
    obtain ⟨k, a, hk, rfl⟩ := hb
    unfold MM.with at hk
    split at hk
    · cases hk; exact .inr (Nat.le_refl _)
    · exact .inl ⟨k, a, hk, rfl⟩
  shape b cells e fz hb hc := ⟨cells, by rw [alloc_get w ob b hb]; exact hc, rfl⟩
  os := rfl
  tape := rfl
  output := rfl
theorem Inv.alloc (hi : Inv M h w) (ob : Obj) {obj : AObj} (hr : ObjRel (M.with h.length (.live ⟨w.heap.size, 0, none⟩)) (w.alloc ob) w.heap.size 0 obj) :
    Inv (M.with h.length (.live ⟨w.heap.size, 0, none⟩)) (h ++ [some obj]) (w.alloc ob) where
  live k ob2 hk := by
    by_cases e : k = h.length
    · subst e
      simp at hk
      subst hk
      exact .inr ⟨_, _, by simp [MM.with], hr⟩
    · have hlt : k < h.length := by
        have := (List.getElem?_eq_some_iff.1 hk).1
        simp at this; omega
      rw [List.getElem?_append_left hlt] at hk
      rcases hi.live k ob2 hk with h1 | ⟨b, bo, h1, h2⟩
      · exact .inl (by simp [MM.with, e, h1])
      · exact .inr ⟨b, bo, by simp [MM.with, e, h1], h2.ev (Ev.alloc hi ob) (alloc_get w ob b (hi.lt _ _ h1))⟩
  dead k hk := by
    by_cases e : k = h.length
    · subst e; simp at hk
    · have hlt : k < h.length := by
        have := (List.getElem?_eq_some_iff.1 hk).1
        simp at this; omega
      rw [List.getElem?_append_left hlt] at hk
      have := hi.dead k hk; simpa [MM.with, e] using this
  out k hk := by
    simp at hk
    have : k ≠ h.length := by omega
    simp [MM.with, this]
    exact hi.out k (by omega)
  inj k k' a a' h1 h2 hb := by
    unfold MM.with at h1 h2
    split at h1 <;> split at h2
    · omega
    · cases h1
      have := hi.lt _ _ h2
      simp at hb; omega
    · cases h2
      have := hi.lt _ _ h1
      simp at hb; omega
    · exact hi.inj _ _ _ _ h1 h2 hb
  lt k a hk := by
    unfold MM.with at hk
    split at hk
    · cases hk; rw [alloc_size]; simp
    · have := hi.lt _ _ hk
      rw [alloc_size]; omega
theorem absent_with {n : Nat} {s : MS} : ∀ o, o < n → M o = .absent → (M.with n s) o = .absent := by
  intro o ho hM
  simp [MM.with, Nat.ne_of_lt ho, hM]
/-- a new row of elements, its cells being those -/
theorem post_newRow {e sz : Nat} {xs : List AV} {cells : Array Value} {y : AV} {cv : Value} (hi : Inv M h w) (hk : K y (h ++ [some (.arr e sz xs)]))
    (hu : ∀ x ∈ xs, (flat x).length = sz ∧ storable x = true) (hc : ∀ (i : Nat) x, (flats xs)[i]? = some x → ∃ v, cells[i]? = some v ∧ VRel M w x v)
    (hv : VRel (M.with h.length (.live ⟨w.heap.size, 0, none⟩)) (w.alloc (.cells cells e)) y cv) : Post M w h.length K cv (w.alloc (.cells cells e)) :=
  ⟨y, _, _, hk, hi.alloc _ ⟨hu, cells, alloc_new w _, fun i x hx => by
    obtain ⟨v, h1, h2⟩ := hc i x hx
    exact ⟨v, by simpa using h1, h2.ev (Ev.alloc hi _)⟩⟩, hv, Ev.alloc hi _, absent_with, by simp⟩
theorem vrel_newPtr {e sz : Nat} {ob : Obj} : VRel (M.with h.length (.live ⟨w.heap.size, 0, none⟩)) (w.alloc ob) (.ptr h.length sz 0 0 []) (.pointer (some ⟨w.heap.size, 0, none⟩)) := by
  have := VRel.ptr (M := M.with h.length (.live ⟨w.heap.size, 0, none⟩)) (w := w.alloc ob) h.length sz 0 0 [] w.heap.size 0 (by simp [MM.with])
  simpa using this
theorem vrel_newSl {e sz n c : Nat} {cap : Option Nat} {cells : Array Value} (hnc : n ≤ c) (hcap : ∀ c', cap = some c' → c = c') (hr : c * sz ≤ cells.size) :
    VRel (M.with h.length (.live ⟨w.heap.size, 0, none⟩)) (w.alloc (.cells cells e)) (.sl h.length sz 0 n cap) (.slice (some ⟨w.heap.size, 0, none⟩) n c) :=
  .sl h.length sz 0 n cap w.heap.size 0 c _ (by simp [MM.with]) hnc hcap (fun _ => by simp) (fun _ => ⟨cells, e, _, alloc_new w _, by simpa using hr⟩)

theorem abox_sound {e : TypeId} {x : AV} {cx : Value} (hk : abox e h K x) (hi : Inv M h w) (hx : VRel M w x cx) :
    ∃ cv w', (Instr.box e cx).run P w = .ok cv w' ∧ Post M w h.length K cv w' := by
  obtain ⟨hs, hk⟩ := hk
  obtain ⟨h1, h2, h3⟩ := vcells hs hx
  refine ⟨_, _, by simp [Instr.box, newVar, newRow]; exact ⟨rfl, rfl⟩, ?_⟩
  refine post_newRow (cells := cx.cells) hi hk (fun y hy => by simp at hy; subst hy; exact ⟨rfl, hs⟩) (fun i y hy => ?_) (vrel_newPtr (e := e))
  have hfl : flats [x] = flat x := by simp [flats]
  rw [hfl] at hy
  have hlt : i < cx.cells.size := by rw [h1]; exact (List.getElem?_eq_some_iff.1 hy).1
  refine ⟨cx.cells[i], Array.getElem?_eq_getElem hlt, h3 i y _ hy (by simp [hlt])⟩

theorem zCheck_spec {l : List AV} {vs : List Value} (hz : zCheck l vs = true) : l.length = vs.length ∧ (l.all leafOk = true) ∧ ∀ (i : Nat) x v, l[i]? = some x → vs[i]? = some v → VRel M w x v := by
  induction l generalizing vs with
  | nil => cases vs <;> simp_all [zCheck]
  | cons a l ih =>
    cases vs with
    | nil => cases a <;> simp [zCheck] at hz
    | cons b bs =>
      cases a <;> first | (simp [zCheck] at hz; done) | skip
      rename_i v
      simp only [zCheck, Bool.and_eq_true] at hz
      obtain ⟨h1, h2⟩ := eqG_eq hz.1
      obtain ⟨i1, i2, i3⟩ := ih hz.2
      subst h1
      refine ⟨by simp [i1], by simp [leafOk, i2], fun i x u hx hu => ?_⟩
      cases i with
      | zero => simp at hx hu; subst hx; subst hu; exact .val _ h2
      | succ i => exact i3 i x u (by simpa using hx) (by simpa using hu)
theorem zAV_spec {t z} (hz : zAV P t = some z) : ∃ i zv, P.info? t = some i ∧ i.zero = some zv ∧ (flat z).length = i.size ∧ (flat z).length = zv.cells.size ∧ storable z = true ∧
    ∀ (M : MM) (w : World) (i : Nat) x v, (flat z)[i]? = some x → zv.cells[i]? = some v → VRel M w x v := by
  unfold zAV at hz
  split at hz
  · rename_i i hi
    split at hz
    · rename_i zv z' h1 h2
      split at hz
      · rename_i hc
        cases hz
        simp only [Bool.and_eq_true, beq_iff_eq] at hc
        refine ⟨i, zv, hi, h1, hc.2, ?_, (zCheck_spec (M := fun _ => .dead) (w := default) hc.1).2.1, fun M w j x v hx hv => (zCheck_spec hc.1).2.2 j x v hx (by simpa using hv)⟩
        have := (zCheck_spec (M := fun _ => .dead) (w := default) hc.1).1
        simpa using this
      · cases hz
    · cases hz
  · cases hz
theorem aalloc_sound {e : TypeId} (hk : aalloc P e h K) (hi : Inv M h w) : ∃ cv w', (Instr.alloc e true (.tuple #[])).run P w = .ok cv w' ∧ Post M w h.length K cv w' := by
  unfold aalloc at hk
  split at hk
  · rename_i z hz
    obtain ⟨i, zv, h1, h2, h3, h4, h5, h6⟩ := zAV_spec hz
    refine ⟨_, _, by simp [Instr.alloc, zeroValue, typeInfo, h1, h2, newVar, newRow]; exact ⟨rfl, rfl⟩, ?_⟩
    refine post_newRow (cells := zv.cells) hi hk (fun y hy => by simp at hy; subst hy; exact ⟨rfl, h5⟩) (fun j y hy => ?_) (vrel_newPtr (e := e))
    have hfl : flats [z] = flat z := by simp [flats]
    rw [hfl] at hy
    have hlt : j < zv.cells.size := by rw [← h4]; exact (List.getElem?_eq_some_iff.1 hy).1
    exact ⟨zv.cells[j], Array.getElem?_eq_getElem hlt, h6 M w j y _ hy (Array.getElem?_eq_getElem hlt)⟩
  · exact hk.elim
end
end Go.Am
