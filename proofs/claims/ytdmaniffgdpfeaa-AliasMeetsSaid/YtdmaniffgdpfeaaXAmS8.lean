/- A part of the proof that AliasThings and AliasMeets return true for every module: texts on an abstract reading of the code (AmS5, AmS6, AmS7, AmS8). -/
import Derived.Test.YtdmaniffgdpfeaaXAmS4
set_option linter.unusedVariables false
set_option linter.unusedSimpArgs false
set_option linter.unusedSectionVars false
set_option linter.unusedVariables false
namespace Go.Am
open Go
section
variable {P : Program} {o : Oper} {tm : List AV} {h : Heap} {K : AV → Heap → Prop} {M : MM} {w : World}

theorem aconv_sound {src dst : TypeId} {x : AV} {cx : Value} (hk : aconv P src dst h K x) (hx : VRel M w x cx) : ∃ z cz, (convert src dst cx).run P w = .ok cz w ∧ K z h ∧ VRel M w z cz := by
  unfold aconv at hk
  split at hk
  · rename_i k n
    obtain rfl := vrel_int hx
    split at hk
    · rename_i ks kd h1 h2
      unfold intOf at h1 h2
      split at h1 <;> first | cases h1 | skip
      split at h2 <;> first | cases h2 | skip
      rename_i h3 _ h4
      exact ⟨_, _, by simp [convert, run_underlying h3, run_underlying h4, Conv.intToInt], hk, vrel_of_int⟩
    · exact hk.elim
  · exact hk.elim
theorem alen_sound {t : TypeId} {ty : TypeId} {x : AV} {cx : Value} (hs : (slElem P t).isSome = true) (hk : alen h K x) (hx : VRel M w x cx) : ∃ z cz, (Builtin.len_ #[t] ty #[cx]).run P w = .ok cz w ∧ K z h ∧ VRel M w z cz := by
  obtain ⟨e, he⟩ := Option.isSome_iff_exists.1 hs
  obtain ⟨hu, -⟩ := slElem_spec he
  unfold alen at hk
  split at hk
  · cases hx; exact ⟨_, _, by simp [Builtin.len_, run_underlying hu, goInt], hk, vrel_of_int⟩
  · cases hx <;> exact ⟨_, _, by simp [Builtin.len_, run_underlying hu, goInt], hk, vrel_of_int⟩
  · cases hx; exact ⟨_, _, by simp [Builtin.len_, run_underlying hu, goInt], hk, vrel_of_int⟩
  · obtain rfl := vrel_val hx
    exact ⟨_, _, by simp [Builtin.len_, run_underlying hu, goInt], hk, vrel_of_int⟩
  · exact hk.elim
theorem acap_sound {t : TypeId} {ty : TypeId} {x : AV} {cx : Value} (hs : (slElem P t).isSome = true) (hk : acap h K x) (hx : VRel M w x cx) : ∃ z cz, (Builtin.cap_ #[t] ty #[cx]).run P w = .ok cz w ∧ K z h ∧ VRel M w z cz := by
  obtain ⟨e, he⟩ := Option.isSome_iff_exists.1 hs
  obtain ⟨hu, -⟩ := slElem_spec he
  unfold acap at hk
  split at hk
  · cases hx; exact ⟨_, _, by simp [Builtin.cap_, run_underlying hu, goInt], hk, vrel_of_int⟩
  · obtain rfl := vrel_val hx
    exact ⟨_, _, by simp [Builtin.cap_, run_underlying hu, goInt], hk, vrel_of_int⟩
  · rename_i o sz off len c
    cases hx with
    | sl _ _ _ _ _ b bo c' a hM hlc hcap ha room =>
      obtain rfl := hcap c rfl
      exact ⟨_, _, by simp [Builtin.cap_, run_underlying hu, goInt], hk, vrel_of_int⟩
    | sld _ _ _ _ _ c' a hM hlc hcap =>
      obtain rfl := hcap c rfl
      exact ⟨_, _, by simp [Builtin.cap_, run_underlying hu, goInt], hk, vrel_of_int⟩
  · exact hk.elim

/-! ### make -/
theorem zAV_spec2 {e z i} (hz : zAV P e = some z) (hi : P.info? e = some i) : ∃ zv, i.zero = some zv ∧ (flat z).length = i.size ∧ (flat z).length = zv.cells.size ∧ storable z = true ∧
    ∀ (M : MM) (w : World) (i : Nat) x v, (flat z)[i]? = some x → zv.cells[i]? = some v → VRel M w x v := by
  obtain ⟨i', zv, h1, h2, h3, h4, h5, h6⟩ := zAV_spec hz
  rw [hi] at h1; cases h1
  exact ⟨zv, h2, h3, h4, h5, h6⟩
theorem flats_replicate {z : AV} {n i : Nat} {x : AV} (h : (flats (List.replicate n z))[i]? = some x) : 0 < (flat z).length ∧ (flat z)[i % (flat z).length]? = some x ∧ i < n * (flat z).length := by
  have hu : ∀ x ∈ List.replicate n z, (flat x).length = (flat z).length := fun x hx => by rw [(List.mem_replicate.1 hx).2]
  have hl := flats_length hu
  simp only [List.length_replicate] at hl
  have hi : i < n * (flat z).length := by rw [← hl]; exact (List.getElem?_eq_some_iff.1 h).1
  have hp : 0 < (flat z).length := by
    rcases Nat.eq_zero_or_pos (flat z).length with h0 | h0
    · rw [h0] at hi; simp at hi
    · exact h0
  have hd : i / (flat z).length < n := (Nat.div_lt_iff_lt_mul hp).2 hi
  have hm := Nat.mod_lt i hp
  have hg := flats_get hu (i := i / (flat z).length) (by simpa using hd) hm
  have he : i / (flat z).length * (flat z).length + i % (flat z).length = i := by rw [Nat.mul_comm]; exact Nat.div_add_mod i _
  rw [he] at hg
  rw [hg] at h
  simp at h
  exact ⟨hp, h, hi⟩
theorem madeCells_get (z : Array Value) (n i : Nat) (hi : i < n) (hz : 0 < z.size) : (madeCells z n)[i]? = z[i % z.size]? := by
  have hm := Nat.mod_lt i hz
  simp [madeCells, hi, hm]
theorem amake_sound {t : TypeId} {x y : AV} {cx cy : Value} (hk : amake P t h K x y) (hi : Inv M h w) (hx : VRel M w x cx) (hy : VRel M w y cy) :
    ∃ cv w', (Instr.makeSlice t cx cy).run P w = .ok cv w' ∧ Post M w h.length K cv w' := by
  unfold amake at hk
  split at hk
  · rename_i k a k' b
    obtain rfl := vrel_int hx
    obtain rfl := vrel_int hy
    split at hk
    · rename_i e he
      split at hk
      · rename_i z hz
        obtain ⟨⟨rfl, h0, hr⟩, hk⟩ := hk
        obtain ⟨hu, i, hin, hsz⟩ := slElem_spec he
        obtain ⟨zv, h2, h3, h4, h5, h6⟩ := zAV_spec2 hz hin
        have hb : P.bytesOf e = i.bytes := by simp [Program.bytesOf, hin]
        rw [hb] at hr
        obtain ⟨hr1, hr2⟩ := hr
        have hbytes : (i.bytes : Int) * a ≤ 281474976710656 := by
          have e1 : ((a.toNat * i.bytes : Nat) : Int) ≤ 140737488355328 := by omega
          rw [Int.natCast_mul, Int.toNat_of_nonneg h0, Int.mul_comm] at e1
          omega
        have hrun := run_make (P := P) w t e i zv hu hin h2 k k' a a h0 (Int.le_refl _) hbytes (by omega)
        have hzs : szOf P e = (flat z).length := by rw [hsz, h3]
        refine ⟨_, _, hrun, post_newRow hi hk (fun y hy => ?_) (fun j y hy => ?_) (vrel_newSl (Nat.le_refl _) (fun c' hc' => by cases hc'; rfl) (by rw [size_madeCells, hsz]; exact Nat.le_refl _))⟩
        · rw [(List.mem_replicate.1 hy).2]
          exact ⟨hzs.symm, h5⟩
        · obtain ⟨hp, hm, hlt⟩ := flats_replicate hy
          have hzp : 0 < zv.cells.size := by omega
          refine ⟨zv.cells[j % zv.cells.size]'(Nat.mod_lt _ hzp), ?_, ?_⟩
          · rw [madeCells_get _ _ _ (by rw [← hsz, hzs]; exact hlt) hzp]
            exact Array.getElem?_eq_getElem _
          · refine h6 M w (j % (flat z).length) y _ hm ?_
            rw [h4]
            exact Array.getElem?_eq_getElem _
      · exact hk.elim
    · exact hk.elim
  · exact hk.elim

/-! ### a slice of a slice -/
theorem sbound_int {d : Int} {x : Option AV} {n : Int} (hb : sbound d x = some n) {cx : Option Value} (hx : ∀ y, x = some y → ∃ c, cx = some c ∧ VRel M w y c) (hn : x = none → cx = none) :
    (x = none ∧ cx = none ∧ n = d) ∨ ∃ k, cx = some (.int k n) := by
  cases x with
  | none => simp [sbound] at hb; exact .inl ⟨rfl, hn rfl, hb.symm⟩
  | some y =>
    obtain ⟨c, hc, hv⟩ := hx y rfl
    unfold sbound at hb
    split at hb
    · rename_i h; cases h
    · rename_i h; cases h; cases hb
      obtain rfl := vrel_int hv
      exact .inr ⟨_, hc⟩
    · cases hb
theorem run_sliceBounds {len cap : Nat} {lo hi : Option Value} {l n : Int} (hl : (lo = none ∧ l = 0) ∨ ∃ k, lo = some (.int k l)) (hn : (hi = none ∧ n = len) ∨ ∃ k, hi = some (.int k n)) (h0 : 0 ≤ l) (h1 : l ≤ n) (h2 : n ≤ len) (h3 : len ≤ cap) :
    (Instr.sliceBounds true len cap lo hi none).run P w = .ok (l.toNat, n.toNat, cap) w := by
  rcases hl with ⟨rfl, rfl⟩ | ⟨k, rfl⟩ <;> rcases hn with ⟨rfl, rfl⟩ | ⟨k', rfl⟩
  · simp [Instr.sliceBounds]
  · have e1 : 0 ≤ n := by omega
    have e2 : n ≤ (cap : Int) := by omega
    simp [Instr.sliceBounds, Instr.sliceBound, asIntOf, e1, e2]
  · simp [Instr.sliceBounds, Instr.sliceBound, asIntOf, h0, h1]
  · have e1 : 0 ≤ n := by omega
    have e2 : n ≤ (cap : Int) := by omega
    have e3 : l ≤ max n 0 := by omega
    simp [Instr.sliceBounds, Instr.sliceBound, asIntOf, e1, e2, h0, h1, e3]
end
end Go.Am

set_option linter.unusedVariables false
namespace Go.Am
open Go
section
variable {P : Program} {o : Oper} {tm : List AV} {h : Heap} {K : AV → Heap → Prop} {M : MM} {w : World}

theorem vrel_opt {x : Option Operand} {act : Act} (ht : Tmps M w tm act.tmps) : (∀ y, x.map (rho tm) = some y → ∃ c, x.map act.eval = some c ∧ VRel M w y c) ∧ (x.map (rho tm) = none → x.map act.eval = none) := by
  cases x with
  | none => exact ⟨fun y hy => (by cases hy), fun _ => rfl⟩
  | some z => exact ⟨fun y hy => by cases hy; exact ⟨_, rfl, rho_rel ht z⟩, fun hh => by cases hh⟩
theorem flats_drop {sz : Nat} {xs : List AV} (hu : ∀ x ∈ xs, (flat x).length = sz) (n : Nat) : flats (xs.drop n) = (flats xs).drop (n * sz) := by
  induction xs generalizing n with
  | nil => simp [flats]
  | cons x xs ih =>
    cases n with
    | zero => simp
    | succ n =>
      have hx : (flat x).length = sz := hu x (by simp)
      simp only [List.drop_succ_cons, flats]
      have e : (n + 1) * sz = (flat x).length + n * sz := by rw [hx, Nat.add_mul]; omega
      rw [ih (fun y hy => hu y (by simp [hy])), e, List.drop_append]
      simp
theorem flats_take {sz : Nat} {xs : List AV} (hu : ∀ x ∈ xs, (flat x).length = sz) (n : Nat) : flats (xs.take n) = (flats xs).take (n * sz) := by
  induction xs generalizing n with
  | nil => simp [flats]
  | cons x xs ih =>
    cases n with
    | zero => simp [flats]
    | succ n =>
      have hx : (flat x).length = sz := hu x (by simp)
      simp only [List.take_succ_cons, flats]
      have e : (n + 1) * sz = (flat x).length + n * sz := by rw [hx, Nat.add_mul]; omega
      rw [ih (fun y hy => hu y (by simp [hy])), e, List.take_append, List.take_of_length_le (l := flat x) (by omega)]
      simp
theorem vrel_sub {sz l n c : Nat} {xs : List AV} {a : Option Addr} (hv : VRel M w (.il sz xs) (.slice a xs.length c)) (h1 : l ≤ n) (h2 : n ≤ xs.length) :
    VRel M w (.il sz ((xs.drop l).take (n - l))) (.slice (if c = l then a else a.map (·.add (l * sz))) (n - l) (c - l)) := by
  cases hv with
  | il _ _ _ _ vs hlc hu0 hvl hc hr =>
    have hu : ∀ x ∈ xs, (flat x).length = sz := fun x hx => (hu0 x hx).1
    have hlen : ((xs.drop l).take (n - l)).length = n - l := by simp; omega
    have hu' : ∀ x ∈ xs.drop l, (flat x).length = sz := fun x hx => hu x (List.mem_of_mem_drop hx)
    have key := VRel.il (M := M) (w := w) sz ((xs.drop l).take (n - l)) (if c = l then a else a.map (·.add (l * sz))) (c - l) ((vs.drop (l * sz)).take ((n - l) * sz)) (by rw [hlen]; omega)
      (fun x hx => hu0 x (List.mem_of_mem_drop (List.mem_of_mem_take hx))) (by rw [flats_take hu', flats_drop hu]; simp [hvl]) (fun hne => ?_) (fun i x v hx hv => ?_)
    · rw [hlen] at key
      exact key
    · have hpos : 0 < n - l := by rw [← hlen]; exact List.length_pos_iff.2 hne
      obtain ⟨b, off, rfl, hb, hlt, hcs⟩ := hc (by intro e; subst e; simp at h2; omega)
      refine ⟨b, off + l * sz, ?_, hb, hlt, ?_⟩
      · rw [if_neg (by omega)]
        simp [Addr.add_lit]
      · intro i v hi
        rw [List.getElem?_take] at hi
        split at hi
        · rw [List.getElem?_drop] at hi
          have := hcs _ _ hi
          rwa [← Nat.add_assoc] at this
        · cases hi
    · rw [flats_take hu', flats_drop hu] at hx
      rw [List.getElem?_take] at hx hv
      split at hx
      · rename_i hlt
        rw [if_pos hlt] at hv
        rw [List.getElem?_drop] at hx hv
        exact hr _ x v hx hv
      · cases hx
theorem aslice_sound {t : TypeId} {x : AV} {cx : Value} {lo hi' mx : Option Operand} {act : Act} (ht : Tmps M w tm act.tmps) (hk : aslice P t h K (lo.map (rho tm)) (hi'.map (rho tm)) (mx.map (rho tm)) x) (hx : VRel M w x cx) :
    ∃ z cz, (Instr.sliceAt t cx (lo.map act.eval) (hi'.map act.eval) (mx.map act.eval)).run P w = .ok cz w ∧ K z h ∧ VRel M w z cz := by
  unfold aslice at hk
  split at hk
  · exact hk.elim
  rename_i e he
  obtain ⟨hu, i, hin, hsz⟩ := slElem_spec he
  obtain ⟨hl1, hl2⟩ := vrel_opt (x := lo) ht
  obtain ⟨hh1, hh2⟩ := vrel_opt (x := hi') ht
  split at hk
  · rename_i hmx
    have hmx' : mx.map act.eval = none := (vrel_opt (x := mx) ht).2 hmx
    split at hk
    · rename_i sz xs
      split at hk
      · rename_i l n hbl hbn
        obtain ⟨hs, ⟨g0, g1, g2⟩, hk⟩ := hk
        have ql := sbound_int hbl hl1 hl2
        have qn := sbound_int hbn hh1 hh2
        have hv := hx
        cases hx with
        | il _ _ a c vs hlc _ _ _ _ =>
          have hrun := run_sliceBounds (P := P) (w := w) (len := xs.length) (cap := c) (lo := lo.map act.eval) (hi := hi'.map act.eval) (ql.imp (fun q => ⟨q.2.1, q.2.2⟩) id) (qn.imp (fun q => ⟨q.2.1, q.2.2⟩) id) g0 g1 g2 hlc
          have hr := vrel_sub (l := l.toNat) (n := n.toNat) hv (by omega) (by omega)
          rw [← hs, hsz] at hr hk
          refine ⟨_, _, ?_, hk, hr⟩
          rw [hmx']
          simp only [Instr.sliceAt, Sem.run_bind, run_underlying hu, Result.andThen_ok, Instr.slice, hrun, sizeOf, typeInfo, run_program, hin, Sem.run_pure]
      · exact hk.elim
    · rename_i o sz off len cp
      split at hk
      · rename_i l n hbl hbn
        obtain ⟨hs, ⟨g0, g1, g2⟩, hk⟩ := hk
        have ql := sbound_int hbl hl1 hl2
        have qn := sbound_int hbn hh1 hh2
        cases hx with
        | sl _ _ _ _ _ b bo c a hM hlc hcap ha room =>
          have hrun := run_sliceBounds (P := P) (w := w) (len := len) (cap := c) (lo := lo.map act.eval) (hi := hi'.map act.eval) (ql.imp (fun q => ⟨q.2.1, q.2.2⟩) id) (qn.imp (fun q => ⟨q.2.1, q.2.2⟩) id) g0 g1 g2 hlc
          refine ⟨_, .slice (some (if c = l.toNat then a else a.add (l.toNat * sz))) (n.toNat - l.toNat) (c - l.toNat), ?_, hk, ?_⟩
          · rw [hmx']
            simp only [Instr.sliceAt, Sem.run_bind, run_underlying hu, Result.andThen_ok, Instr.slice, hrun, sizeOf, typeInfo, run_program, hin, Sem.run_pure]
            rw [← hs, hsz]
            split <;> simp_all
          · refine .sl o sz (off + l.toNat) _ _ b bo _ _ hM (by omega) (fun c' hc' => ?_) (fun hp => ?_) (fun hp => ?_)
            · cases cp with
              | none => cases hc'
              | some q => cases hc'; rw [hcap q rfl]
            · rw [if_neg (by omega), ha (by omega), Addr.add_lit, Nat.add_mul]
              congr 1; omega
            · have := room (by omega)
              rwa [show off + l.toNat + (c - l.toNat) = off + c by omega]
        | sld _ _ _ _ _ c a hM hlc hcap =>
          have hrun := run_sliceBounds (P := P) (w := w) (len := len) (cap := c) (lo := lo.map act.eval) (hi := hi'.map act.eval) (ql.imp (fun q => ⟨q.2.1, q.2.2⟩) id) (qn.imp (fun q => ⟨q.2.1, q.2.2⟩) id) g0 g1 g2 hlc
          refine ⟨_, .slice (some (if c = l.toNat then a else a.add (l.toNat * sz))) (n.toNat - l.toNat) (c - l.toNat), ?_, hk, ?_⟩
          · rw [hmx']
            simp only [Instr.sliceAt, Sem.run_bind, run_underlying hu, Result.andThen_ok, Instr.slice, hrun, sizeOf, typeInfo, run_program, hin, Sem.run_pure]
            rw [← hs, hsz]
            split <;> simp_all
          · refine .sld o sz (off + l.toNat) _ _ _ _ hM (by omega) (fun c' hc' => ?_)
            cases cp with
            | none => cases hc'
            | some q => cases hc'; rw [hcap q rfl]
      · exact hk.elim
    · split at hk
      · rename_i l n hbl hbn
        obtain ⟨rfl, rfl, hk⟩ := hk
        have ql := sbound_int hbl hl1 hl2
        have qn := sbound_int hbn hh1 hh2
        obtain rfl := vrel_val hx
        have hrun := run_sliceBounds (P := P) (w := w) (len := 0) (cap := 0) (lo := lo.map act.eval) (hi := hi'.map act.eval) (l := 0) (n := 0) (ql.imp (fun q => ⟨q.2.1, rfl⟩) id) (qn.imp (fun q => ⟨q.2.1, rfl⟩) id) (by omega) (by omega) (by omega) (by omega)
        refine ⟨_, .slice none 0 0, ?_, hk, .val _ rfl⟩
        rw [hmx']
        simp only [Instr.sliceAt, Sem.run_bind, run_underlying hu, Result.andThen_ok, Instr.slice, hrun, sizeOf, typeInfo, run_program, hin, Sem.run_pure]
        rfl
      · exact hk.elim
    · exact hk.elim
  · rename_i k m hmx
    obtain ⟨cm, hcm, hvm⟩ := (vrel_opt (x := mx) ht).1 _ hmx
    obtain rfl := vrel_int hvm
    split at hk
    · rename_i k' n hlo hhi
      obtain ⟨⟨rfl, rfl⟩, hk⟩ := hk
      obtain ⟨ch, hch, hvh⟩ := hh1 _ hhi
      obtain rfl := vrel_int hvh
      have hlo' := hl2 hlo
      have hb : ∀ len cap, (Instr.sliceBounds true len cap none (some (.int k' 0)) (some (.int k 0))).run P w = .ok (0, 0, 0) w := by
        intro len cap
        simp [Instr.sliceBounds, Instr.sliceBound, asIntOf]
      rw [hcm, hch, hlo']
      have key : ∀ a len cap, (Instr.sliceAt t (.slice a len cap) none (some (.int k' 0)) (some (.int k 0))).run P w = .ok (.slice a 0 0) w := by
        intro a len cap
        simp only [Instr.sliceAt, Sem.run_bind, run_underlying hu, Result.andThen_ok, Instr.slice, hb, sizeOf, typeInfo, run_program, hin, Sem.run_pure]
        rfl
      split at hk
      · cases hx; exact ⟨_, _, key _ _ _, hk, .emp _⟩
      · cases hx; exact ⟨_, _, key _ _ _, hk, .emp _⟩
      · obtain rfl := vrel_val hx; exact ⟨_, _, key _ _ _, hk, .emp _⟩
      · cases hx <;> exact ⟨_, _, key _ _ _, hk, .emp _⟩
      · exact hk.elim
    · exact hk.elim
  · exact hk.elim
end
end Go.Am

set_option linter.unusedVariables false
namespace Go.Am
open Go
section
variable {P : Program} {o : Oper} {tm : List AV} {h : Heap} {K : AV → Heap → Prop} {M : MM} {w : World}

/-- what the elements of a slice are in memory -/
structure Elems (P : Program) (M : MM) (w : World) (sz : Nat) (tx : TypeId) (cx : Value) (ys : List AV) (news : List Value) : Prop where
  src : Src P sz tx cx ys.length news w
  uni : ∀ y ∈ ys, (flat y).length = sz ∧ storable y = true
  rel : ∀ (i : Nat) y v, (flats ys)[i]? = some y → news[i]? = some v → VRel M w y v
theorem Elems.len {sz tx cx ys news} (he : Elems P M w sz tx cx ys news) : news.length = (flats ys).length := by
  rw [he.src.newsLen, flats_length (fun y hy => (he.uni y hy).1)]
theorem one_of_rel {sz : Nat} {ys : List AV} {news : List Value} (hu : ∀ y ∈ ys, (flat y).length = sz ∧ storable y = true) (hl : news.length = (flats ys).length)
    (hr : ∀ (i : Nat) y v, (flats ys)[i]? = some y → news[i]? = some v → VRel M w y v) : ∀ u ∈ news, u.oneCell' = true := by
  intro u hm
  obtain ⟨i, hi, rfl⟩ := List.mem_iff_getElem.1 hm
  have hi' : i < (flats ys).length := by omega
  refine (hr i _ _ (List.getElem?_eq_getElem hi') (List.getElem?_eq_getElem hi)).one ?_
  have : (flats ys).all leafOk = true := by
    clear hl hr hm hi hi'
    induction ys with
    | nil => rfl
    | cons y ys ih =>
      simp only [flats, List.all_append, Bool.and_eq_true]
      exact ⟨(hu y (by simp)).2, ih (fun z hz => hu z (by simp [hz]))⟩
  exact List.all_eq_true.1 this _ (List.getElem_mem hi')
theorem elems_sound {sz : Nat} {x : AV} {cx : Value} {ys : List AV} {tx e' : TypeId} (hk : elems h sz x = some ys) (hi : Inv M h w) (hx : VRel M w x cx) (hu : P.underlying tx = some (.slice e')) :
    ∃ news, Elems P M w sz tx cx ys news := by
  unfold elems at hk
  split at hk
  · cases hk
    obtain rfl := vrel_val hx
    exact ⟨[], .ofNil w hu 0, by simp, by simp [flats]⟩
  · cases hk
    cases hx with
    | emp a =>
      cases a with
      | none => exact ⟨[], .ofNil w hu 0, by simp, by simp [flats]⟩
      | some a => exact ⟨[], .ofSlice w hu a 0 0 [] (by simp) (by simp) (by simp), by simp, by simp [flats]⟩
  · rename_i s xs
    split at hk
    · rename_i hs
      have hk := Option.some.inj hk
      subst hk
      cases hx with
      | il _ _ a c vs hlc hu0 hvl hc hr =>
        by_cases hne : xs = []
        · subst hne
          simp [flats] at hvl
          subst hvl
          cases a with
          | none => exact ⟨[], .ofNil w hu c, by simp, by simp [flats]⟩
          | some a => exact ⟨[], .ofSlice w hu a 0 c [] (by simp) (by simp) (by simp), by simp, by simp [flats]⟩
        · have hsz : s = sz := by
            rcases hs with hs | hs
            · exact hs
            · exact absurd hs hne
          subst hsz
          obtain ⟨b, off, rfl, hb, hlt, hcs⟩ := hc hne
          have hl : vs.length = xs.length * s := by rw [hvl, flats_length (fun x hx => (hu0 x hx).1)]
          exact ⟨vs, .ofSlice w hu _ _ c vs hl (fun j u hj => by rw [Addr.add_lit]; exact hcs j u hj) (one_of_rel hu0 hvl hr), hu0, hr⟩
    · cases hk
  · rename_i o s off len cp
    split at hk
    · rename_i e s' xs ho
      split at hk
      · rename_i hc
        obtain ⟨h1, h2, hle⟩ := hc
        subst h1; subst h2
        have hk := Option.some.inj hk
        subst hk
        have hlen : ((xs.drop off).take len).length = len := by simp; omega
        cases hx with
        | sl _ _ _ _ _ b bo c a hM hlc hcap ha room =>
          obtain ⟨b', bo', heq, hu0, cells, hb, hcells⟩ := hi.live_of ho hM
          cases heq
          have hu1 : ∀ x ∈ xs, (flat x).length = s' := fun x hx => (hu0 x hx).1
          have hu2 : ∀ y ∈ (xs.drop off).take len, (flat y).length = s' ∧ storable y = true := fun y hy => hu0 y (List.mem_of_mem_drop (List.mem_of_mem_take hy))
          have hfl : flats ((xs.drop off).take len) = ((flats xs).drop (off * s')).take (len * s') := by
            rw [flats_take (fun x hx => hu1 x (List.mem_of_mem_drop hx)), flats_drop hu1]
          have hget : ∀ (i : Nat) y, (flats ((xs.drop off).take len))[i]? = some y → i < len * s' ∧ (flats xs)[off * s' + i]? = some y := by
            intro i y hy
            rw [hfl, List.getElem?_take] at hy
            split at hy
            · rw [List.getElem?_drop] at hy; exact ⟨by assumption, hy⟩
            · cases hy
          have hcr : CellsRel M w b (bo + off * s') (flats ((xs.drop off).take len)) := by
            intro i y hy
            obtain ⟨h1, h2⟩ := hget i y hy
            obtain ⟨v, h3, h4⟩ := hcells _ y h2
            exact ⟨v, by rw [← Nat.add_assoc] at h3; simp [World.cell?, hb, h3], h4⟩
          obtain ⟨vs, h3, h4, h5⟩ := cells_list hcr
          have hvl : vs.length = len * s' := by rw [h3, flats_length (fun y hy => (hu2 y hy).1), hlen]
          have hone := one_of_rel hu2 h3 h5
          by_cases h0 : len = 0
          · subst h0
            simp at hvl
            subst hvl
            exact ⟨[], by rw [hlen]; exact .ofSlice w hu a 0 c [] (by simp) (by simp) (by simp), hu2, h5⟩
          · have hae := ha (by omega)
            subst hae
            exact ⟨vs, by rw [hlen]; exact .ofSlice w hu _ len c vs hvl (fun j u hj => by rw [Addr.add_lit]; exact h4 j u hj) hone, hu2, h5⟩
        | sld _ _ _ _ _ c a hM => exact (hi.not_dead ho hM).elim
      · cases hk
    · cases hk
  · cases hk

theorem nextcap_le {need old bytes : Nat} (hg : old < need) (h : need * bytes ≤ 140737488355328) : Builtin.nextslicecap need old * bytes ≤ 281474976710656 := by
  have key : Builtin.nextslicecap need old ≤ 2 * need := by
    unfold Builtin.nextslicecap
    split
    · omega
    · split
      · omega
      · have hgb : ∀ r c, c < need → 256 ≤ c → Builtin.growBy need r c ≤ 2 * need := by
          intro r
          induction r with
          | zero => intro c hc _; simp [Builtin.growBy]; omega
          | succ r ih =>
            intro c hc h256
            simp only [Builtin.growBy]
            rw [if_neg (by omega)]
            by_cases hlt : c + (c + 768) / 4 < need
            · exact ih _ hlt (by omega)
            · cases r with
              | zero => simp only [Builtin.growBy]; omega
              | succ r => simp only [Builtin.growBy]; rw [if_pos (by omega)]; omega
        exact hgb 4 old hg (by omega)
  calc Builtin.nextslicecap need old * bytes ≤ 2 * need * bytes := Nat.mul_le_mul_right _ key
    _ = 2 * (need * bytes) := Nat.mul_assoc ..
    _ ≤ _ := by omega
end
end Go.Am

set_option linter.unusedVariables false
namespace Go.Am
open Go
section
variable {P : Program} {o : Oper} {tm : List AV} {h : Heap} {K : AV → Heap → Prop} {M : MM} {w : World}

theorem Ev.drew : Ev M w M w.drew := ⟨Nat.le_refl _, fun _ _ _ => rfl, fun _ _ h => .inl h, fun _ h => h, fun _ h => .inl h, fun _ c _ _ _ h => ⟨c, h, rfl⟩, rfl, rfl, rfl⟩
theorem Inv.same {w' : World} (hi : Inv M h w) (hev : Ev M w M w') (hh : w'.heap = w.heap) : Inv M h w' where
  live k obj hk := by
    rcases hi.live k obj hk with h1 | ⟨b, bo, h1, h2⟩
    · exact .inl h1
    · exact .inr ⟨b, bo, h1, h2.ev hev (by rw [hh])⟩
  dead := hi.dead
  out := hi.out
  inj := hi.inj
  lt k a hk := by rw [hh]; exact hi.lt k a hk
theorem Post.drew {w' : World} {cv n} (hp : Post M w.drew n K cv w') : Post M w n K cv w' := by
  obtain ⟨y, h', M', h1, h2, h3, h4, h5⟩ := hp
  exact ⟨y, h', M', h1, h2, h3, Ev.drew.trans h4, h5⟩

/-- object o is given up for a new one over the same block -/
theorem post_rebase {b bo bo' o e sz len c : Nat} {obj : AObj} {xs : List AV} {old cs : Array Value} {a : Addr} (hi : Inv M h w) (ho : h[o]? = some (some obj)) (hM : M o = .live ⟨b, bo, none⟩)
    (hb : w.heap[b]? = some (.cells old e (0, 0))) (hs : cs.size = old.size) (hk : K (.sl h.length sz 0 len none) (h.set o none ++ [some (.arr e sz xs)]))
    (hu : ∀ x ∈ xs, (flat x).length = sz ∧ storable x = true) (hc : ∀ (i : Nat) x, (flats xs)[i]? = some x → ∃ v, cs[bo' + i]? = some v ∧ VRel M w x v)
    (hlc : len ≤ c) (ha : 0 < c → a = ⟨b, bo', none⟩) (hr : 0 < c → bo' + c * sz ≤ cs.size) : Post M w h.length K (.slice (some a) len c) (w.setRow b cs) := by
  have holt : o < h.length := (List.getElem?_eq_some_iff.1 ho).1
  let M' : MM := (M.with o .dead).with h.length (.live ⟨b, bo', none⟩)
  have hMn : M h.length = .absent := hi.out _ (Nat.le_refl _)
  have hM'n : M' h.length = .live ⟨b, bo', none⟩ := by simp [M', MM.with]
  have hM'o : M' o = .dead := by simp [M', MM.with, Nat.ne_of_lt holt]
  have hM'x : ∀ k, k ≠ h.length → k ≠ o → M' k = M k := fun k h1 h2 => by simp [M', MM.with, h1, h2]
  have hev0 : Ev M w M (w.setRow b cs) := Ev.setRow hM hb hs
  have hev : Ev M w M' (w.setRow b cs) := by
    refine { hev0 with live := fun k a hk => ?_, dead := fun k hk => ?_, blk := fun q hq => ?_ }
    · have h1 : k ≠ h.length := by rintro rfl; rw [hMn] at hk; cases hk
      by_cases h2 : k = o
      · subst h2; exact .inr hM'o
      · left; rw [hM'x k h1 h2]; exact hk
    · have h1 : k ≠ h.length := by rintro rfl; rw [hMn] at hk; cases hk
      by_cases h2 : k = o
      · subst h2; exact hM'o
      · rw [hM'x k h1 h2]; exact hk
    · obtain ⟨k, a, hk, rfl⟩ := hq
      by_cases h1 : k = h.length
      · subst h1; rw [hM'n] at hk; cases hk; exact .inl ⟨o, _, hM, rfl⟩
      · by_cases h2 : k = o
        · subst h2; rw [hM'o] at hk; cases hk
        · rw [hM'x k h1 h2] at hk; exact .inl ⟨k, a, hk, rfl⟩
  refine ⟨_, _, M', hk, ?_, ?_, hev, ?_, by simp⟩
  · refine { live := fun k obj2 hk => ?_, dead := fun k hk => ?_, out := fun k hk => ?_, inj := fun k k' x x' h1 h2 hbb => ?_, lt := fun k x hk => ?_ }
    · by_cases h1 : k = h.length
      · subst h1
        have : (h.set o none ++ [some (.arr e sz xs)])[h.length]? = some (some (.arr e sz xs)) := by
          rw [List.getElem?_append_right (by simp)]; simp
        rw [this] at hk
        cases hk
        exact .inr ⟨b, bo', hM'n, hu, cs, setRow_heap w b old cs e (0, 0) hb, fun i x hx => let ⟨v, p, q⟩ := hc i x hx; ⟨v, p, q.ev hev⟩⟩
      · have hlt : k < h.length := by
          have := (List.getElem?_eq_some_iff.1 hk).1
          simp at this; omega
        rw [List.getElem?_append_left (by simpa using hlt), List.getElem?_set] at hk
        split at hk
        · simp at hk
        · rename_i hne
          have hne' : k ≠ o := fun e => hne e.symm
          rw [hM'x k h1 hne']
          rcases hi.live k obj2 hk with h3 | ⟨b2, bo2, h3, h4⟩
          · exact .inl h3
          · exact .inr ⟨b2, bo2, h3, h4.ev hev (setRow_other w b b2 cs (fun e => hne' (hi.inj _ _ _ _ h3 hM e)))⟩
    · by_cases h1 : k = h.length
      · subst h1
        have : (h.set o none ++ [some (.arr e sz xs)])[h.length]? = some (some (.arr e sz xs)) := by
          rw [List.getElem?_append_right (by simp)]; simp
        rw [this] at hk; cases hk
      · have hlt : k < h.length := by
          have := (List.getElem?_eq_some_iff.1 hk).1
          simp at this; omega
        rw [List.getElem?_append_left (by simpa using hlt), List.getElem?_set] at hk
        split at hk
        · rename_i e; subst e; exact .inl hM'o
        · rename_i hne
          rw [hM'x k h1 (fun e => hne e.symm)]
          exact hi.dead k hk
    · simp at hk
      rw [hM'x k (by omega) (by omega)]
      exact hi.out k (by omega)
    · have key : ∀ k x, M' k = .live x → ∃ k0 x0, M k0 = .live x0 ∧ x0.block = x.block ∧ ((k = h.length ∧ k0 = o) ∨ (k ≠ h.length ∧ k ≠ o ∧ k0 = k)) := by
        intro k x hx
        by_cases e1 : k = h.length
        · subst e1; rw [hM'n] at hx; cases hx; exact ⟨o, _, hM, rfl, .inl ⟨rfl, rfl⟩⟩
        · by_cases e2 : k = o
          · subst e2; rw [hM'o] at hx; cases hx
          · rw [hM'x k e1 e2] at hx; exact ⟨k, x, hx, rfl, .inr ⟨e1, e2, rfl⟩⟩
      obtain ⟨k0, x0, p1, p2, p3⟩ := key k x h1
      obtain ⟨k1, x1, q1, q2, q3⟩ := key k' x' h2
      have := hi.inj k0 k1 x0 x1 p1 q1 (by rw [p2, q2]; exact hbb)
      omega
    · rw [setRow_size]
      by_cases e1 : k = h.length
      · subst e1; rw [hM'n] at hk; cases hk; have := hi.lt _ _ hM; exact this
      · by_cases e2 : k = o
        · subst e2; rw [hM'o] at hk; cases hk
        · rw [hM'x k e1 e2] at hk; exact hi.lt k x hk
  · refine .sl h.length sz 0 len none b bo' c a hM'n hlc (by simp) (fun hp => by rw [ha hp]; simp) (fun hp => ⟨cs, e, _, setRow_heap w b old cs e (0, 0) hb, by simpa using hr hp⟩)
  · intro k hk hab
    rw [hM'x k (by omega) (by rintro rfl; rw [hM] at hab; cases hab)]
    exact hab
end
end Go.Am
