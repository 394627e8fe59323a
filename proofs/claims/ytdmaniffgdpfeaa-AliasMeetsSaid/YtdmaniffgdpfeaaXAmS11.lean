/- A part of the proof that AliasThings and AliasMeets return true for every module: texts on an abstract reading of the code (AmS9, AmS10, AmS11). -/
import Derived.Test.YtdmaniffgdpfeaaXAmS8
set_option linter.unusedVariables false
set_option linter.unusedSimpArgs false
set_option linter.unusedSectionVars false
set_option linter.unusedVariables false
namespace Go.Am
open Go
section
variable {P : Program} {o : Oper} {tm : List AV} {h : Heap} {K : AV → Heap → Prop} {M : MM} {w : World}

/-- a new row made by an append -/
theorem app_grow {t u ty e : TypeId} {i : TypeInfo} {z : Value} {base : Option Addr} {sLen sCap : Nat} {olds : List Value} {xs ys : List AV} {cx : Value} {news : List Value}
    (ht : P.underlying t = some (.slice e)) (hin : P.info? e = some i) (hz : i.zero = some z) (hzs : z.cells.size = i.size)
    (hold : (Builtin.firstCells i.size sLen (.slice base sLen sCap)).run P w.drew = .ok olds.toArray w.drew)
    (hel : Elems P M w i.size u cx ys news) (hg : sCap < sLen + ys.length) (hr : ARoom (sLen + ys.length) i.bytes)
    (hxs : xs.length = sLen) (hux : ∀ x ∈ xs, (flat x).length = i.size ∧ storable x = true) (hol : olds.length = (flats xs).length) (hrx : ∀ (k : Nat) x v, (flats xs)[k]? = some x → olds[k]? = some v → VRel M w x v) :
    ∃ W cells c, (Builtin.append_ #[t, u] ty #[.slice base sLen sCap, cx]).run P w = .ok (.slice (some ⟨w.heap.size, 0, none⟩) (sLen + ys.length) c) (w.drew.alloc (.cells cells e)) ∧ W = w.drew ∧ sLen + ys.length ≤ c ∧
      (∀ x ∈ xs ++ ys, (flat x).length = i.size ∧ storable x = true) ∧ (∀ (k : Nat) x, (flats (xs ++ ys))[k]? = some x → ∃ v, cells[k]? = some v ∧ VRel M w x v) ∧ c * i.size ≤ cells.size := by
  obtain ⟨hr1, hr2⟩ := hr
  have hrun := run_append_grow_src (P := P) w t u ty e i z ht hin hz base sLen sCap olds hold cx ys.length news hel.src hg (by omega) (nextcap_le hg hr1)
  have hge := grownCap_ge w (sLen + ys.length) sCap e
  have huy : ∀ x ∈ xs ++ ys, (flat x).length = i.size ∧ storable x = true := by
    intro x hx
    rcases List.mem_append.1 hx with hx | hx
    · exact hux x hx
    · exact hel.uni x hx
  refine ⟨_, _, _, hrun, rfl, hge, huy, fun k x hk => ?_, ?_⟩
  · have hkl := (List.getElem?_eq_some_iff.1 hk).1
    have hln := hel.len
    rw [flats_append] at hk hkl
    have hon : (olds ++ news).length = (flats xs ++ flats ys).length := by simp [hol, hln]
    have hkl2 : k < (olds ++ news).length := by rw [hon]; exact hkl
    refine ⟨(olds ++ news)[k], ?_, ?_⟩
    · rw [Array.getElem?_append_left (by simpa using hkl2)]
      simp [hkl2]
    · by_cases hlo : k < (flats xs).length
      · rw [List.getElem?_append_left hlo] at hk
        exact hrx k x _ hk (by rw [List.getElem_append_left (by omega)]; exact List.getElem?_eq_getElem _)
      · rw [List.getElem?_append_right (by omega)] at hk
        refine hel.rel _ x _ hk ?_
        rw [List.getElem_append_right (by omega)]
        rw [List.getElem?_eq_some_iff]
        exact ⟨by simp at hkl2; omega, by congr 1; omega⟩
  · have hl1 : (olds ++ news).length = (sLen + ys.length) * i.size := by
      have := hel.len
      rw [List.length_append, hol, this, flats_length (fun x hx => (hux x hx).1), flats_length (fun x hx => (hel.uni x hx).1), hxs, ← Nat.add_mul]
    have hl2 : (Builtin.zeroCells z.cells (grownCap w (sLen + ys.length) sCap e - (sLen + ys.length))).size = (grownCap w (sLen + ys.length) sCap e - (sLen + ys.length)) * i.size := by
      simp [Builtin.zeroCells, hzs]
    simp only [Array.size_append, List.size_toArray, hl1, hl2]
    rw [← Nat.add_mul, Nat.add_sub_cancel' hge]
    exact Nat.le_refl _

theorem Inv.kill {o obj} (hi : Inv M h w) (ho : h[o]? = some (some obj)) : Inv (M.with o .dead) (h.set o none) w ∧ Ev M w (M.with o .dead) w := by
  have holt : o < h.length := (List.getElem?_eq_some_iff.1 ho).1
  have hev : Ev M w (M.with o .dead) w := by
    refine { Ev.refl M w with live := fun k a hk => ?_, dead := fun k hk => ?_, blk := fun b hb => ?_ }
    · by_cases e : k = o
      · subst e; right; simp [MM.with]
      · left; simp [MM.with, e, hk]
    · by_cases e : k = o
      · subst e; simp [MM.with]
      · simp [MM.with, e, hk]
    · obtain ⟨k, a, hk, rfl⟩ := hb
      unfold MM.with at hk
      split at hk
      · cases hk
      · exact .inl ⟨k, a, hk, rfl⟩
  refine ⟨{ live := fun k ob hk => ?_, dead := fun k hk => ?_, out := fun k hk => ?_, inj := fun k k' a a' h1 h2 hb => ?_, lt := fun k a hk => ?_ }, hev⟩
  · rw [List.getElem?_set] at hk
    split at hk
    · simp at hk
    · rename_i hne
      rcases hi.live k ob hk with h1 | ⟨b, bo, h1, h2⟩
      · exact .inl (by simp [MM.with, Ne.symm hne, h1])
      · exact .inr ⟨b, bo, by simp [MM.with, Ne.symm hne, h1], h2.ev hev rfl⟩
  · rw [List.getElem?_set] at hk
    split at hk
    · rename_i e; subst e; simp [MM.with]
    · rename_i hne; have := hi.dead k hk; simpa [MM.with, Ne.symm hne] using this
  · simp at hk
    have : k ≠ o := by omega
    simp [MM.with, this, hi.out k hk]
  · unfold MM.with at h1 h2
    split at h1 <;> split at h2 <;> first | cases h1 | cases h2 | exact hi.inj _ _ _ _ h1 h2 hb
  · unfold MM.with at hk
    split at hk
    · cases hk
    · exact hi.lt k a hk

theorem aapp_sound {ts : List TypeId} {ty : TypeId} {s x : AV} {cs cx : Value} (hk : aapp P ts h K s x) (hi : Inv M h w) (hs : VRel M w s cs) (hx : VRel M w x cx) :
    ∃ cv w', (Builtin.append_ ts.toArray ty #[cs, cx]).run P w = .ok cv w' ∧ Post M w h.length K cv w' := by
  unfold aapp at hk
  split at hk
  · rename_i t u
    split at hk
    · rename_i e e' he he'
      obtain ⟨hu, i, hin, hsz⟩ := slElem_spec he
      obtain ⟨hu', -⟩ := slElem_spec he'
      split at hk
      · rename_i ys hys
        obtain ⟨hzz, hk⟩ := hk
        obtain ⟨zz, hzz⟩ := Option.isSome_iff_exists.1 hzz
        obtain ⟨z, hz, hz3, hz4, -, -⟩ := zAV_spec2 hzz hin
        have hzs : z.cells.size = i.size := by omega
        have hb : P.bytesOf e = i.bytes := by simp [Program.bytesOf, hin]
        rw [hsz] at hys
        obtain ⟨news, hel⟩ := elems_sound hys hi hx hu'
        have hid : Inv M h w.drew := hi.same Ev.drew rfl
        unfold aappGo at hk
        split at hk
        · -- nil
          obtain ⟨hr, hk⟩ := hk
          obtain rfl := vrel_val hs
          rw [hb] at hr
          by_cases hy : ys = []
          · subst hy
            refine ⟨.slice none 0 0, w, ?_, .pure (hk.1 rfl) hi (.val _ rfl)⟩
            have hc := hel.src.cells
            simp only [List.length_nil] at hc
            simp [Builtin.append_, run_underlying hu, run_underlying hu', sizeOf, typeInfo, hin, hel.src.len, hc]
          · have hpos : 0 < ys.length := List.length_pos_iff.2 hy
            obtain ⟨W, cells, c, h1, rfl, h2, h3, h4, h5⟩ := app_grow (base := none) (sLen := 0) (sCap := 0) (olds := []) (xs := []) (ty := ty) hu hin hz hzs (run_firstCells_none w.drew i.size 0 0 0) hel (by omega) (by simpa using hr) rfl (by simp) (by simp [flats]) (by simp [flats])
            simp only [Nat.zero_add, List.nil_append] at h1 h2 h3 h4
            refine ⟨_, _, h1, Post.drew (post_newRow (w := w.drew) hid (hk.2 hy) (fun y hy => by rw [hsz]; exact h3 y hy) (fun k y hy => ?_) (vrel_newSl (w := w.drew) h2 (by simp) (by rw [hsz]; exact h5)))⟩
            obtain ⟨v, a, b⟩ := h4 k y hy
            exact ⟨v, a, b.ev Ev.drew⟩
        · -- emp
          obtain ⟨hr, hk⟩ := hk
          rw [hb] at hr
          cases hs with
          | emp a =>
          by_cases hy : ys = []
          · subst hy
            refine ⟨.slice a 0 0, w, ?_, .pure (hk.1 rfl) hi (.emp a)⟩
            have hn : news = [] := by have := hel.len; simp [flats] at this; exact this
            have hc := hel.src.cells
            rw [hn] at hc
            simp only [List.length_nil] at hc
            cases a <;> simp [Builtin.append_, run_underlying hu, run_underlying hu', sizeOf, typeInfo, hin, hel.src.len, hc, storeCells]
          · have hpos : 0 < ys.length := List.length_pos_iff.2 hy
            have hold : (Builtin.firstCells i.size 0 (.slice a 0 0)).run P w.drew = .ok ([] : List Value).toArray w.drew := by
              cases a with
              | none => exact run_firstCells_none w.drew i.size 0 0 0
              | some a => exact run_firstCells_some w.drew i.size 0 a 0 0 [] (by simp) (by simp)
            obtain ⟨W, cells, c, h1, rfl, h2, h3, h4, h5⟩ := app_grow (base := a) (sLen := 0) (sCap := 0) (olds := []) (xs := []) (ty := ty) hu hin hz hzs hold hel (by omega) (by simpa using hr) rfl (by simp) (by simp [flats]) (by simp [flats])
            simp only [Nat.zero_add, List.nil_append] at h1 h2 h3 h4
            refine ⟨_, _, h1, Post.drew (post_newRow (w := w.drew) hid (hk.2 hy) (fun y hy => by rw [hsz]; exact h3 y hy) (fun k y hy => ?_) (vrel_newSl (w := w.drew) h2 (by simp) (by rw [hsz]; exact h5)))⟩
            obtain ⟨v, p, q⟩ := h4 k y hy
            exact ⟨v, p, q.ev Ev.drew⟩
        · -- a row of one's own
          rename_i o s off len cp
          split at hk
          · rename_i xs e2 s2 xs2 hxs ho
            obtain ⟨⟨rfl, hr⟩, hk⟩ := hk
            rw [hb] at hr
            have hxs0 := hxs
            rw [hsz] at hxs0
            obtain ⟨olds, hold⟩ := elems_sound hxs0 hi hs hu
            have hlen : xs.length = len := by
              unfold elems at hxs0
              simp only [ho] at hxs0
              split at hxs0
              · rename_i hcc
                have := Option.some.inj hxs0
                rw [← this]; simp; omega
              · cases hxs0
            have hss : s = i.size ∧ s2 = i.size ∧ off + len ≤ xs2.length := by
              unfold elems at hxs0
              simp only [ho] at hxs0
              split at hxs0
              · assumption
              · cases hxs0
            obtain ⟨rfl, hs2, hoff⟩ := hss
            cases hs with
            | sl _ _ _ _ _ b bo c a hM hlc hcap ha room =>
              by_cases hroom : len + ys.length ≤ c
              · obtain ⟨b', bo', heq, hu0, cells, hb, hcells⟩ := hi.live_of ho hM
                cases heq
                obtain ⟨hr1, hr2⟩ := hr
                have hnl := hel.src.newsLen
                have hux : ∀ x ∈ xs ++ ys, (flat x).length = i.size ∧ storable x = true := by
                  intro x hx
                  rcases List.mem_append.1 hx with hx | hx
                  · exact hold.uni x hx
                  · exact hel.uni x hx
                by_cases hc0 : c = 0
                · subst hc0
                  obtain rfl : len = 0 := by omega
                  obtain rfl : ys = [] := List.length_eq_zero_iff.1 (by omega)
                  obtain rfl : xs = [] := List.length_eq_zero_iff.1 hlen
                  have hc := hel.src.cells
                  have hn : news = [] := by have := hel.len; simp [flats] at this; exact this
                  rw [hn] at hc
                  simp only [List.length_nil] at hc
                  have hp := post_rebase (cs := cells) (bo' := bo + off * i.size) (len := 0) (c := 0) (a := a) (xs := []) hi ho hM hb rfl (by simpa using hk) (by simp) (by simp [flats]) (Nat.le_refl _) (by simp) (by simp)
                  rw [setRow_self w b cells _ (0, 0) hb] at hp
                  exact ⟨_, w, by simp [Builtin.append_, run_underlying hu, run_underlying hu', sizeOf, typeInfo, hin, hel.src.len, hc, storeCells], hp⟩
                · have hae := ha (by omega)
                  subst hae
                  obtain ⟨cells2, e3, fz, hb2, hroom2⟩ := room (by omega)
                  rw [hb] at hb2
                  cases hb2
                  have hmul : (off + c) * i.size = off * i.size + c * i.size := Nat.add_mul ..
                  have hfit : bo + off * i.size + len * i.size + news.length ≤ cells.size := by
                    have : (len + ys.length) * i.size ≤ c * i.size := Nat.mul_le_mul_right _ hroom
                    rw [Nat.add_mul] at this
                    omega
                  have hcell : ∀ j, j < news.length → (w.cell? ⟨b, bo + off * i.size + len * i.size + j, none⟩).isSome = true := by
                    intro j hj
                    have : bo + off * i.size + len * i.size + j < cells.size := by omega
                    simp [World.cell?, hb, this]
                  have hfro : ∀ j, j < news.length → w.frozen? ⟨b, bo + off * i.size + len * i.size + j, none⟩ = false := by
                    intro j hj
                    simp [World.frozen?, hb]
                  have hrun := run_append_room_src (P := P) w t u ty e2 i hu hin b (bo + off * i.size) len c cx ys.length news hel.src hroom hcell hfro
                  have hst1 := run_storeCells_cells (P := P) b (bo + off * i.size + len * i.size) news 0 w (by simpa using hcell) (by simpa using hfro) hel.src.one
                  have hst2 := run_storeCells_at P b (bo + off * i.size + len * i.size) e2 news 0 cells w hb (by omega) hel.src.one
                  simp only [Nat.add_zero] at hst1 hst2
                  rw [hst1] at hst2
                  have heqw := (Result.ok.inj hst2).2
                  rw [heqw] at hrun
                  generalize hcs' : (List.take (bo + off * i.size + len * i.size) cells.toList ++ news ++ List.drop (bo + off * i.size + len * i.size + news.length) cells.toList).toArray = cs' at hrun
                  have hsz' : cs'.size = cells.size := by rw [← hcs']; simp; omega
                  have hget : ∀ j, cs'[j]? = if bo + off * i.size + len * i.size ≤ j ∧ j < bo + off * i.size + len * i.size + news.length then news[j - (bo + off * i.size + len * i.size)]? else cells[j]? := by
                    intro j
                    rw [← hcs', List.getElem?_toArray]
                    have htk : (cells.toList.take (bo + off * i.size + len * i.size)).length = bo + off * i.size + len * i.size := by simp; omega
                    split
                    · rename_i hj
                      rw [List.append_assoc, List.getElem?_append_right (by omega), htk, List.getElem?_append_left (by omega)]
                    · rename_i hj
                      by_cases hlo : j < bo + off * i.size + len * i.size
                      · rw [List.append_assoc, List.getElem?_append_left (by omega), List.getElem?_take, if_pos hlo, Array.getElem?_toList]
                      · rw [List.getElem?_append_right (by simp; omega), List.getElem?_drop, Array.getElem?_toList]
                        congr 1
                        simp at hj ⊢
                        omega
                  refine ⟨_, _, hrun, post_rebase (cs := cs') (bo' := bo + off * i.size) (len := len + ys.length) (c := c) (xs := xs ++ ys) hi ho hM hb hsz' hk (fun x hx => by rw [hsz]; exact hux x hx) (fun k x hx => ?_) hroom (fun _ => rfl) (fun _ => by rw [hsz']; rw [hsz]; omega)⟩
                  have hfx : (flats xs).length = len * i.size := by rw [flats_length (fun x hx => (hold.uni x hx).1), hlen]
                  rw [hget]
                  rw [flats_append] at hx
                  by_cases hlo : k < (flats xs).length
                  · rw [List.getElem?_append_left hlo] at hx
                    rw [if_neg (by omega)]
                    have hxs' : xs = (xs2.drop off).take len := by
                      unfold elems at hxs0
                      simp only [ho] at hxs0
                      split at hxs0
                      · exact (Option.some.inj hxs0).symm
                      · cases hxs0
                    have hu1 : ∀ x ∈ xs2, (flat x).length = i.size := fun x hx => by rw [(hu0 x hx).1, hs2]
                    rw [hxs', flats_take (fun x hx => hu1 x (List.mem_of_mem_drop hx)), flats_drop hu1, List.getElem?_take, if_pos (by omega), List.getElem?_drop] at hx
                    obtain ⟨v, p, q⟩ := hcells _ x hx
                    exact ⟨v, by rw [← p]; congr 1; omega, q⟩
                  · rw [List.getElem?_append_right (by omega)] at hx
                    have hkl := (List.getElem?_eq_some_iff.1 hx).1
                    have hll := hel.len
                    rw [if_pos (by omega)]
                    have : bo + off * i.size + k - (bo + off * i.size + len * i.size) = k - (flats xs).length := by omega
                    rw [this]
                    have hlt : k - (flats xs).length < news.length := by omega
                    exact ⟨_, List.getElem?_eq_getElem hlt, hel.rel _ x _ hx (List.getElem?_eq_getElem hlt)⟩
              · have holdD := hold.src.cellsD
                rw [hlen] at holdD
                obtain ⟨W, cells, c2, h1, rfl, h2, h3, h4, h5⟩ := app_grow (base := some a) (sLen := len) (sCap := c) (olds := olds) (xs := xs) (ty := ty) hu hin hz hzs holdD hel (by omega) hr hlen hold.uni hold.len hold.rel
                obtain ⟨hkd, hke⟩ := hid.kill ho
                have hk2 : K (.sl (h.set o none).length (szOf P e2) 0 (len + ys.length) none) (h.set o none ++ [some (.arr e2 (szOf P e2) (xs ++ ys))]) := by simpa using hk
                have hp := post_newRow (w := w.drew) (cells := cells) hkd hk2 (fun y hy => by rw [hsz]; exact h3 y hy) (fun k y hy => by
                  obtain ⟨v, p, q⟩ := h4 k y hy
                  exact ⟨v, p, (q.ev Ev.drew).ev hke⟩) (vrel_newSl (w := w.drew) h2 (by simp) (by rw [hsz]; exact h5))
                obtain ⟨y, h', M', p1, p2, p3, p4, p5⟩ := hp
                refine ⟨_, _, h1, y, h', M', p1, p2, p3, Ev.drew.trans (hke.trans p4), fun k hk hab => p5.1 k (by simpa using hk) ?_, by simpa using p5.2⟩
                have : k ≠ o := by rintro rfl; rw [hM] at hab; cases hab
                simp [MM.with, this, hab]
            | sld _ _ _ _ _ c a hM => exact (hi.not_dead ho hM).elim
          · exact hk.elim
        · exact hk.elim
      · exact hk.elim
    · exact hk.elim
  · exact hk.elim
end
end Go.Am

set_option linter.unusedVariables false
namespace Go.Am
open Go
section
variable {P : Program} {o : Oper} {tm : List AV} {h : Heap} {K : AV → Heap → Prop} {M : MM} {w : World}

/-! ### values put together -/
theorem pcells {x : AV} {cv : Value} (hs : partOk x = true) (hv : VRel M w x cv) : cv.cells.size = (flat x).length ∧ ∀ (i : Nat) y v, (flat x)[i]? = some y → cv.cells[i]? = some v → VRel M w y v := by
  by_cases hx : ∃ xs, x = .agg xs
  · obtain ⟨xs, rfl⟩ := hx
    cases hv with
    | agg _ cs hl hr => exact ⟨hl, hr⟩
  · have hne : ∀ xs, x ≠ .agg xs := fun xs e => hx ⟨xs, e⟩
    rw [flat_leaf hne]
    have hlo : leafOk x = true := by
      cases x <;> first | rfl | (simp [partOk] at hs; done) | exact absurd rfl (hne _)
    have hone := hv.one hlo
    have hcs : cv.cells = #[cv] := by cases cv <;> first | rfl | (simp [Value.oneCell'] at hone)
    rw [hcs]
    refine ⟨rfl, fun i y v h1 h2 => ?_⟩
    cases i with
    | zero => simp at h1 h2; subst h1; subst h2; exact hv
    | succ i => simp at h1
/-- cells that are set one by one -/
theorem foldl_set (vs : List Value) (off : Nat) (cs : Array Value) (k0 : Nat) : ∀ j, ((vs.zipIdx k0).foldl (fun (cs : Array Value) (p : Value × Nat) => cs.setIfInBounds (off + p.2) p.1) cs)[j]? =
    if off + k0 ≤ j ∧ j < off + k0 + vs.length ∧ j < cs.size then vs[j - (off + k0)]? else cs[j]? := by
  induction vs generalizing cs k0 with
  | nil => intro j; simp; intro a b; omega
  | cons v vs ih =>
    intro j
    rw [List.zipIdx_cons, List.foldl_cons, ih]
    simp only [Array.size_setIfInBounds, List.length_cons]
    by_cases h1 : off + (k0 + 1) ≤ j ∧ j < off + (k0 + 1) + vs.length ∧ j < cs.size
    · rw [if_pos h1, if_pos (by omega)]
      have : j - (off + k0) = (j - (off + (k0 + 1))) + 1 := by omega
      rw [this]; rfl
    · rw [if_neg h1, Array.getElem?_setIfInBounds]
      by_cases h2 : off + k0 = j
      · subst h2
        by_cases h3 : off + k0 < cs.size
        · rw [if_pos rfl, if_pos h3, if_pos (by omega)]; simp
        · rw [if_pos rfl, if_neg h3, if_neg (by omega)]
          simp [Array.getElem?_eq_none (Nat.le_of_not_lt h3)]
      · rw [if_neg h2, if_neg (by omega)]
theorem foldl_set_size (vs : List (Value × Nat)) (off : Nat) (cs : Array Value) : (vs.foldl (fun (cs : Array Value) (p : Value × Nat) => cs.setIfInBounds (off + p.2) p.1) cs).size = cs.size := by
  induction vs generalizing cs with
  | nil => rfl
  | cons v vs ih => rw [List.foldl_cons, ih]; simp

theorem layout_spec {n : Nat} {fs : List Field} {zs : List AV} (hl : layoutOk P n fs zs = true) : fs.length = zs.length ∧ ∀ (i : Nat) f z, fs[i]? = some f → zs[i]? = some z →
    f.offset = n + (flats (zs.take i)).length ∧ (∃ ti, P.info? f.type = some ti ∧ ti.size = (flat z).length) := by
  induction fs generalizing n zs with
  | nil => cases zs <;> simp_all [layoutOk]
  | cons f fs ih =>
    cases zs with
    | nil => simp [layoutOk] at hl
    | cons z zs =>
      simp only [layoutOk, Bool.and_eq_true, beq_iff_eq] at hl
      obtain ⟨⟨⟨h1, h2⟩, h3⟩, h4⟩ := hl
      obtain ⟨i1, i2⟩ := ih h4
      obtain ⟨ti, hti⟩ := Option.isSome_iff_exists.1 h2
      refine ⟨by simp [i1], fun i g y hg hy => ?_⟩
      cases i with
      | zero =>
        simp at hg hy; subst hg; subst hy
        exact ⟨by simp [h1, flats], ti, hti, by rw [← h3]; simp [Program.cellsOf, hti]⟩
      | succ i =>
        obtain ⟨j1, j2⟩ := i2 i g y (by simpa using hg) (by simpa using hy)
        exact ⟨by rw [j1]; simp [flats]; omega, j2⟩
/-- parts of the same lengths: where each stands stays -/
theorem lens_set {zs : List AV} {i : Nat} {x : AV} (hx : ((zs[i]?).map fun z => (flat z).length) = some (flat x).length) : (zs.set i x).map (fun z => (flat z).length) = zs.map (fun z => (flat z).length) := by
  apply List.ext_getElem?
  intro j
  rw [List.getElem?_map, List.getElem?_map, List.getElem?_set]
  split
  · rename_i e; subst e
    split
    · rw [hx]; rfl
    · rename_i hh; simp [List.getElem?_eq_none (Nat.le_of_not_lt hh)] at hx
  · rfl
theorem flats_len_take {zs ys : List AV} (hl : zs.map (fun z => (flat z).length) = ys.map (fun z => (flat z).length)) (i : Nat) : (flats (zs.take i)).length = (flats (ys.take i)).length := by
  induction zs generalizing ys i with
  | nil => cases ys <;> simp_all
  | cons z zs ih =>
    cases ys with
    | nil => simp at hl
    | cons y ys =>
      simp at hl
      cases i with
      | zero => simp
      | succ i => simp [flats, hl.1, ih hl.2 i]
theorem fill_sound {place : Nat → Option (Nat × Nat)} {zs0 : List AV} (hp : ∀ (i : Nat) z, zs0[i]? = some z → place i = some ((flats (zs0.take i)).length, (flat z).length)) :
    ∀ (ps : List (Nat × AV)) (cps : List (Nat × Value)) (zs : List AV) (cells : Array Value), zs.map (fun z => (flat z).length) = zs0.map (fun z => (flat z).length) →
      cells.size = (flats zs).length → (∀ (i : Nat) y v, (flats zs)[i]? = some y → cells[i]? = some v → VRel M w y v) → cps.length = ps.length →
      (∀ (i : Nat) p c, ps[i]? = some p → cps[i]? = some c → p.1 = c.1 ∧ VRel M w p.2 c.2) → abuildGo h K zs ps →
      ∃ zs' cells', Instr.fill place cells cps = some cells' ∧ K (.agg zs') h ∧ cells'.size = (flats zs').length ∧ ∀ (i : Nat) y v, (flats zs')[i]? = some y → cells'[i]? = some v → VRel M w y v := by
  intro ps
  induction ps with
  | nil =>
    intro cps zs cells hl hs hr hlen hrel hk
    cases cps with
    | nil => exact ⟨zs, cells, rfl, hk, hs, hr⟩
    | cons c cps => simp at hlen
  | cons p ps ih =>
    intro cps zs cells hl hs hr hlen hrel hk
    obtain ⟨i, x⟩ := p
    cases cps with
    | nil => simp at hlen
    | cons c cps =>
      obtain ⟨i', v⟩ := c
      obtain ⟨hii, hv⟩ := hrel 0 (i, x) (i', v) rfl rfl
      simp only at hii hv
      subst hii
      obtain ⟨⟨hpo, hlx⟩, hk⟩ := hk
      obtain ⟨hcs, hcr⟩ := pcells hpo hv
      obtain ⟨z, hz, hzl⟩ : ∃ z, zs[i]? = some z ∧ (flat z).length = (flat x).length := by
        cases hz : zs[i]? with
        | none => simp [hz] at hlx
        | some z => exact ⟨z, rfl, by simpa [hz] using hlx⟩
      have hilt : i < zs.length := (List.getElem?_eq_some_iff.1 hz).1
      obtain ⟨z0, hz0⟩ : ∃ z0, zs0[i]? = some z0 := by
        have : zs.length = zs0.length := by have := congrArg List.length hl; simpa using this
        exact ⟨_, List.getElem?_eq_getElem (by omega)⟩
      have hz0l : (flat z0).length = (flat z).length := by
        have h1 : (zs.map (fun z => (flat z).length))[i]? = some (flat z).length := by simp [hz]
        have h2 : (zs0.map (fun z => (flat z).length))[i]? = some (flat z0).length := by simp [hz0]
        rw [hl, h2] at h1
        exact Option.some.inj h1
      have hpl := hp i z0 hz0
      have hoff := flats_len_take hl i
      rw [← hoff, hz0l, hzl] at hpl
      have hsp := flats_split hz
      have hxs : (zs.set i x)[i]? = some x := by simp [hilt]
      have hsp' := flats_split hxs
      have e1 : (zs.set i x).take i = zs.take i := by rw [List.take_set]; exact List.set_eq_of_length_le (by simp; omega)
      have e2 : (zs.set i x).drop (i + 1) = zs.drop (i + 1) := by rw [List.drop_set, if_pos (by omega)]
      rw [e1, e2] at hsp'
      have htot : (flats zs).length = (flats (zs.take i)).length + (flat x).length + (flats (zs.drop (i + 1))).length := by rw [hsp]; simp [hzl]; omega
      have hcond : ¬ (v.cells.size ≠ (flat x).length ∨ (flats (zs.take i)).length + v.cells.size > cells.size) := by omega
      have hfold : ∀ j, (v.cells.zipIdx.foldl (fun (cs : Array Value) (p : Value × Nat) => cs.setIfInBounds ((flats (zs.take i)).length + p.2) p.1) cells)[j]? =
          if (flats (zs.take i)).length ≤ j ∧ j < (flats (zs.take i)).length + (flat x).length then v.cells[j - (flats (zs.take i)).length]? else cells[j]? := by
        intro j
        have := foldl_set v.cells.toList (flats (zs.take i)).length cells 0 j
        rw [← Array.foldl_toList, Array.toList_zipIdx]
        rw [this]
        simp only [Nat.add_zero, Array.length_toList, hcs, Array.getElem?_toList]
        by_cases hh : (flats (zs.take i)).length ≤ j ∧ j < (flats (zs.take i)).length + (flat x).length
        · rw [if_pos hh, if_pos (by omega)]
        · rw [if_neg hh, if_neg (by omega)]
      obtain ⟨zs', cells', f1, f2, f3, f4⟩ := ih cps (zs.set i x) (v.cells.zipIdx.foldl (fun (cs : Array Value) (p : Value × Nat) => cs.setIfInBounds ((flats (zs.take i)).length + p.2) p.1) cells)
        (by rw [lens_set hlx, hl]) (by rw [← Array.foldl_toList, foldl_set_size, hs, htot, hsp']; simp; omega)
        (fun j y u hy hu => by
          rw [hsp'] at hy
          rw [hfold] at hu
          by_cases c1 : j < (flats (zs.take i)).length
          · rw [if_neg (by omega)] at hu
            rw [List.append_assoc, List.getElem?_append_left c1] at hy
            exact hr j y u (by rw [hsp, List.append_assoc, List.getElem?_append_left c1]; exact hy) hu
          · rw [List.append_assoc, List.getElem?_append_right (by omega)] at hy
            by_cases c2 : j - (flats (zs.take i)).length < (flat x).length
            · rw [if_pos (by omega)] at hu
              rw [List.getElem?_append_left c2] at hy
              exact hcr _ y u hy hu
            · rw [if_neg (by omega)] at hu
              rw [List.getElem?_append_right (by omega)] at hy
              refine hr j y u ?_ hu
              rw [hsp, List.append_assoc, List.getElem?_append_right (by omega), List.getElem?_append_right (by omega), hzl]
              exact hy)
        (by simpa using hlen) (fun j p c h1 h2 => hrel (j + 1) p c (by simpa using h1) (by simpa using h2)) hk
      refine ⟨zs', cells', ?_, f2, f3, f4⟩
      simp only [Instr.fill, hpl]
      rw [if_neg (by simpa using hcond)]
      exact f1
end
end Go.Am

set_option linter.unusedVariables false
namespace Go.Am
open Go
section
variable {P : Program} {o : Oper} {tm : List AV} {h : Heap} {K : AV → Heap → Prop} {M : MM} {w : World}

theorem mapM_run {α β : Type} (g : α → Sem β) (p : α → β) (l : List α) (hg : ∀ x ∈ l, (g x).run P w = .ok (p x) w) : (l.mapM g).run P w = .ok (l.map p) w := by
  induction l with
  | nil => simp
  | cons x l ih =>
    rw [List.mapM_cons]
    simp [hg x (by simp), ih (fun y hy => hg y (by simp [hy]))]
theorem parts_rel {act : Act} (ht : Tmps M w tm act.tmps) (ps : List (Nat × Operand)) : ∀ (i : Nat) p c, (ps.map fun p => (p.1, rho tm p.2))[i]? = some p → (ps.map fun p => (p.1, act.eval p.2))[i]? = some c → p.1 = c.1 ∧ VRel M w p.2 c.2 := by
  intro i p c h1 h2
  rw [List.getElem?_map] at h1 h2
  cases hq : ps[i]? with
  | none => simp [hq] at h1
  | some q =>
    simp [hq] at h1 h2
    subst h1; subst h2
    exact ⟨rfl, rho_rel ht _⟩
theorem abuild_sound {t : TypeId} {act : Act} {ps : Array (Nat × Operand)} (ht : Tmps M w tm act.tmps) (hk : abuild P t h K (ps.toList.map fun p => (p.1, rho tm p.2))) :
    ∃ z cz, (Instr.build t (ps.map fun (i, x) => (i, act.eval x))).run P w = .ok cz w ∧ K z h ∧ VRel M w z cz := by
  unfold abuild at hk
  split at hk
  · rename_i zs hb
    unfold bAV at hb
    split at hb
    · rename_i fs zs' hu hz
      split at hb
      · rename_i hl
        have hb := Option.some.inj hb
        subst hb
        obtain ⟨i, zv, h1, h2, h3, h4, h5, h6⟩ := zAV_spec hz
        obtain ⟨l1, l2⟩ := layout_spec hl
        have hfl : flat (.agg zs') = flats zs' := rfl
        rw [hfl] at h3 h4 h6
        let place : Field → Nat × Nat := fun f => (f.offset, P.cellsOf f.type)
        have hmap : (fs.mapM fun f => do pure (f.offset, ← sizeOf f.type) : Sem (Array (Nat × Nat))).run P w = .ok (fs.toList.map place).toArray w := by
          rw [Array.mapM_eq_mapM_toList]
          simp only [Sem.run_map]
          rw [mapM_run _ place]
          · rfl
          · intro f hf
            obtain ⟨j, hj, rfl⟩ := List.mem_iff_getElem.1 hf
            obtain ⟨-, ti, hti, -⟩ := l2 j _ (zs'[j]'(by omega)) (List.getElem?_eq_getElem hj) (List.getElem?_eq_getElem _)
            simp only [Array.getElem_toList] at hti
            simp [sizeOf, typeInfo, hti, place, Program.cellsOf]
        obtain ⟨zs2, cells2, f1, f2, f3, f4⟩ := fill_sound (M := M) (w := w) (h := h) (K := K) (place := fun i => ((fs.toList.map place).toArray)[i]?) (zs0 := zs') (fun j z hj => by
            have hjl := (List.getElem?_eq_some_iff.1 hj).1
            have hf : fs.toList[j]? = some (fs.toList[j]'(by omega)) := List.getElem?_eq_getElem _
            obtain ⟨p1, ti, p2, p3⟩ := l2 j _ z hf hj
            simp only [List.getElem?_toArray, List.getElem?_map, hf, Option.map_some, place, p1, Nat.zero_add]
            rw [← p3]
            simp only [Array.getElem_toList] at p2
            simp [Program.cellsOf, p2])
          (ps.toList.map fun p => (p.1, rho tm p.2)) (ps.toList.map fun p => (p.1, act.eval p.2)) zs' zv.cells rfl h4.symm (fun j y v hy hv => h6 M w j y v hy hv) (by simp) (parts_rel ht _) hk
        refine ⟨_, .agg cells2, ?_, f2, .agg zs2 cells2 f3 f4⟩
        have hps : (ps.map fun (i, x) => (i, act.eval x)).toList = ps.toList.map fun p => (p.1, act.eval p.2) := by simp
        simp only [Instr.build, zeroValue, typeInfo, Sem.run_bind, run_program, Result.andThen_ok, h1, Sem.run_pure, h2, run_underlying hu, hmap, hps, f1]
      · cases hb
    · cases hb
  · exact hk.elim
theorem go_all {sz : Nat} (xs : List AV) : ∀ (pre suf : List AV), suf.length = xs.length → (∀ y ∈ suf, (flat y).length = sz) → allOk sz xs → K (.agg (pre ++ xs)) h → abuildGo h K (pre ++ suf) ((List.range' pre.length xs.length).zip xs) := by
  induction xs with
  | nil =>
    intro pre suf hl _ _ hk
    obtain rfl := List.length_eq_zero_iff.1 hl
    exact hk
  | cons x xs ih =>
    intro pre suf hl hu ha hk
    cases suf with
    | nil => simp at hl
    | cons s suf =>
      obtain ⟨⟨a1, a2⟩, a3⟩ := ha
      rw [List.length_cons, List.range'_succ, List.zip_cons_cons]
      refine ⟨⟨?_, ?_⟩, ?_⟩
      · cases x <;> first | rfl | (simp [storable, flat, leafOk] at a2)
      · rw [List.getElem?_append_right (Nat.le_refl _)]
        simp [a1, hu s (by simp)]
      · have e : (pre ++ s :: suf).set pre.length x = (pre ++ [x]) ++ suf := by simp
        rw [e]
        have := ih (pre ++ [x]) suf (by simpa using hl) (fun y hy => hu y (by simp [hy])) a3 (by simpa using hk)
        simpa using this
theorem allOk_mem {sz : Nat} {xs : List AV} (h : allOk sz xs) : ∀ x ∈ xs, (flat x).length = sz ∧ storable x = true := by
  induction xs with
  | nil => simp
  | cons x xs ih =>
    intro y hy
    rcases List.mem_cons.1 hy with rfl | hy
    · exact h.1
    · exact ih h.2 y hy
theorem abuildSlice_sound {t : TypeId} {len : Nat} {act : Act} {ps : Array (Nat × Operand)} (hi : Inv M h w) (ht : Tmps M w tm act.tmps) (hk : abuildSlice P t len h K (ps.toList.map (·.1)) (ps.toList.map fun p => rho tm p.2)) :
    ∃ cv w', (Instr.buildSlice t len (ps.map fun (i, x) => (i, act.eval x))).run P w = .ok cv w' ∧ Post M w h.length K cv w' := by
  unfold abuildSlice at hk
  split at hk
  · rename_i e he
    obtain ⟨⟨his, hsz24, hz, hall⟩, hk⟩ := hk
    obtain ⟨hu, i, hin, hsz⟩ := slElem_spec he
    obtain ⟨z, hz⟩ := Option.isSome_iff_exists.1 hz
    obtain ⟨zv, h2, h3, h4, h5, h6⟩ := zAV_spec2 hz hin
    have hlen : ps.toList.length = len := by have := congrArg List.length his; simpa using this
    have hur : ∀ x ∈ List.replicate len z, (flat x).length = i.size := fun x hx => by rw [(List.mem_replicate.1 hx).2]; exact h3
    have hlr := flats_length hur
    simp only [List.length_replicate] at hlr
    rw [hsz] at hall hsz24
    have hgo := go_all (h := h) (K := fun y _ => y = .agg (ps.toList.map fun p => rho tm p.2)) (ps.toList.map fun p => rho tm p.2) [] (List.replicate len z) (by simp [← hlen]) hur hall rfl
    have hzip : ((List.range' 0 (ps.toList.map fun p => rho tm p.2).length).zip (ps.toList.map fun p => rho tm p.2)) = ps.toList.map fun p => (p.1, rho tm p.2) := by
      have hr : List.range' 0 (ps.toList.map fun p => rho tm p.2).length = ps.toList.map (·.1) := by
        rw [his, List.length_map, hlen, List.range_eq_range']
      rw [hr, List.zip_map']
    simp only [List.length_nil, List.nil_append] at hgo
    rw [hzip] at hgo
    obtain ⟨zs2, cells2, f1, f2, f3, f4⟩ := fill_sound (M := M) (w := w) (h := h) (place := fun j => some (j * i.size, i.size)) (zs0 := List.replicate len z) (fun j y hj => by
        have hjl := (List.getElem?_eq_some_iff.1 hj).1
        have hy : y = z := (List.mem_replicate.1 (List.mem_of_getElem? hj)).2
        have hl : (flats (List.take j (List.replicate len z))).length = j * i.size := by
          rw [flats_length (fun x hx => hur x (List.mem_of_mem_take hx))]
          simp at hjl ⊢
          rw [Nat.min_eq_left (by omega)]
        rw [hl, hy, h3])
      (ps.toList.map fun p => (p.1, rho tm p.2)) (ps.toList.map fun p => (p.1, act.eval p.2)) (List.replicate len z) ((Array.range (len * i.size)).map ((if len * i.size = 0 then #[] else zv.cells)[· % (if len * i.size = 0 then (#[] : Array Value) else zv.cells).size]!)) rfl
      (by simp [hlr]) (fun j y v hy hv => by
        obtain ⟨hp, hm, hlt⟩ := flats_replicate hy
        rw [h3] at hlt hm hp
        have hne : ¬ len * i.size = 0 := by omega
        have hzs : zv.cells.size = i.size := by omega
        rw [if_neg hne] at hv
        have hmm := Nat.mod_lt j (show 0 < zv.cells.size by omega)
        simp [hlt, hmm] at hv
        subst hv
        refine h6 M w (j % i.size) y _ hm ?_
        rw [← hzs]
        exact Array.getElem?_eq_getElem hmm) (by simp) (parts_rel ht _) hgo
    have f2' : zs2 = ps.toList.map fun p => rho tm p.2 := by simpa using f2
    subst f2'
    have hps : (ps.map fun (i, x) => (i, act.eval x)).toList = ps.toList.map fun p => (p.1, act.eval p.2) := by simp
    have hrun : (Instr.buildSlice t len (ps.map fun (i, x) => (i, act.eval x))).run P w = .ok (.slice (some ⟨w.heap.size, 0, none⟩) len len) (w.alloc (.cells cells2 e)) := by
      have hno : ¬ len * i.size > 2 ^ 24 := by omega
      by_cases h0 : len * i.size = 0
      · rw [if_pos h0] at f1
        simp only [Instr.buildSlice, sizeOf, typeInfo, Sem.run_bind, run_program, Result.andThen_ok, hin, Sem.run_pure, run_underlying hu, hps]
        rw [if_neg hno]
        simp only [h0, if_true, Sem.run_bind, Sem.run_pure, Result.andThen_ok]
        simp only [h0] at f1
        rw [f1]
        simp [newRow]
      · rw [if_neg h0] at f1
        simp only [Instr.buildSlice, sizeOf, typeInfo, Sem.run_bind, run_program, Result.andThen_ok, hin, Sem.run_pure, run_underlying hu, hps]
        rw [if_neg hno]
        simp only [h0, if_false, zeroValue, typeInfo, Sem.run_bind, run_program, hin, h2, Sem.run_pure, Result.andThen_ok]
        rw [f1]
        simp [newRow]
    refine ⟨_, _, hrun, post_newRow hi hk (fun x hx => by rw [hsz]; exact allOk_mem hall x hx) (fun j y hy => ?_) (vrel_newSl (Nat.le_refl _) (fun c' hc' => by cases hc'; rfl) ?_)⟩
    · have hlt : j < cells2.size := by rw [f3]; exact (List.getElem?_eq_some_iff.1 hy).1
      exact ⟨_, Array.getElem?_eq_getElem hlt, f4 j y _ hy (Array.getElem?_eq_getElem hlt)⟩
    · rw [f3, flats_length (fun x hx => (allOk_mem hall x hx).1), hsz]
      simp [← hlen]
  · exact hk.elim
end
end Go.Am
