/- A general part of the proof: the walker by abstract values and its soundness, for every program; no condition. -/
import Derived.Test.YtjeedadfhoiedaaGreatA2
set_option linter.unusedVariables false
set_option linter.constructorNameAsVariable false
namespace Go.Proofs.Ai
open Go.RowKit

section
variable {E : Env} {P : Program} {st : St} {a : Act} {w w' : World} {h h' : Heap} {ρ ρ' : Rho} {I : Bool → Nat → Prop}

/-! ### 15. Composite values -/
theorem foldl_set (off : Nat) : ∀ (L : List Value) (n : Nat) (arr : Array Value), off + n + L.length ≤ arr.size →
    ((L.zipIdx n).foldl (fun cs (x : Value × Nat) => cs.setIfInBounds (off + x.2) x.1) arr).toList = arr.toList.take (off + n) ++ L ++ arr.toList.drop (off + n + L.length)
  | [], n, arr, _ => by simp
  | c :: L, n, arr, hl => by
    simp only [List.length_cons] at hl
    simp only [List.zipIdx_cons, List.foldl_cons]
    rw [foldl_set off L (n + 1) (arr.setIfInBounds (off + n) c) (by simp; omega)]
    rw [Array.toList_setIfInBounds]
    have hlt : off + n < arr.toList.length := by simp; omega
    rw [List.set_eq_take_append_cons_drop, if_pos hlt]
    have h1 : (arr.toList.take (off + n)).length = off + n := by rw [List.length_take]; omega
    have e1 : (arr.toList.take (off + n) ++ c :: arr.toList.drop (off + n + 1)).take (off + (n + 1)) = arr.toList.take (off + n) ++ [c] := by
      rw [List.take_append, h1, List.take_of_length_le (by omega), show off + (n + 1) - (off + n) = 1 from by omega]
      simp
    have e2 : (arr.toList.take (off + n) ++ c :: arr.toList.drop (off + n + 1)).drop (off + (n + 1) + L.length) = arr.toList.drop (off + n + (c :: L).length) := by
      rw [List.drop_append, h1, List.drop_eq_nil_of_le (by omega), List.nil_append, show off + (n + 1) + L.length - (off + n) = L.length + 1 from by omega, List.drop_succ_cons, List.drop_drop]
      congr 1
      simp only [List.length_cons]; omega
    rw [e1, e2]
    simp

theorem fold_cells (off : Nat) (v : Array Value) (arr : Array Value) (hl : off + v.size ≤ arr.size) :
    (v.zipIdx.foldl (fun cs (x : Value × Nat) => cs.setIfInBounds (off + x.2) x.1) arr).toList = arr.toList.take off ++ v.toList ++ arr.toList.drop (off + v.size) := by
  have := foldl_set off v.toList 0 arr (by simpa using hl)
  rw [← Array.foldl_toList, Array.toList_zipIdx]
  simpa using this

theorem fill_step {place : Nat → Option (Nat × Nat)} {arr : Array Value} {i off size : Nat} {v : Value} {rest : List (Nat × Value)} (hp : place i = some (off, size)) (hv : v.cells.size = size) (hf : off + size ≤ arr.size) :
    ∃ arr' : Array Value, Instr.fill place arr ((i, v) :: rest) = Instr.fill place arr' rest ∧ arr'.toList = arr.toList.take off ++ v.cells.toList ++ arr.toList.drop (off + v.cells.toList.length) ∧ arr'.size = arr.size := by
  refine ⟨v.cells.zipIdx.foldl (fun cs (x : Value × Nat) => cs.setIfInBounds (off + x.2) x.1) arr, ?_, ?_, ?_⟩
  · simp only [Instr.fill, hp]
    rw [if_neg]
    · simp only [hv, ne_eq, not_true, decide_false, Bool.false_or, decide_eq_true_eq]
      omega
  · rw [fold_cells off v.cells arr (by omega)]
    simp
  · have := congrArg List.length (fold_cells off v.cells arr (by omega))
    simp only [Array.length_toList, List.length_append, List.length_take, List.length_drop] at this
    omega

theorem fill_seq (size : Nat) : ∀ (vs : List Value) (k : Nat) (arr : Array Value), (∀ v ∈ vs, v.cells.size = size) → (k + vs.length) * size ≤ arr.size →
    ∃ arr', Instr.fill (fun i => some (i * size, size)) arr ((List.range' k vs.length).zip vs) = some arr' ∧ arr'.toList = arr.toList.take (k * size) ++ vs.flatMap (fun v => v.cells.toList) ++ arr.toList.drop ((k + vs.length) * size)
  | [], k, arr, _, _ => ⟨arr, by simp [Instr.fill], by simp⟩
  | v :: vs, k, arr, hv, hl => by
    simp only [List.length_cons] at hl
    have hk : (k + 1) * size ≤ (k + (vs.length + 1)) * size := Nat.mul_le_mul_right _ (by omega)
    have hk1 : k * size + size ≤ arr.size := by rw [Nat.add_mul, Nat.one_mul] at hk; omega
    obtain ⟨arr1, e1, e2, e3⟩ := fill_step (place := fun i => some (i * size, size)) (arr := arr) (i := k) (rest := (List.range' (k + 1) vs.length).zip vs) rfl (hv v (by simp)) hk1
    obtain ⟨arr', e4, e5⟩ := fill_seq size vs (k + 1) arr1 (fun u hu => hv u (by simp [hu])) (by rw [e3]; rw [show k + 1 + vs.length = k + (vs.length + 1) from by omega]; exact hl)
    refine ⟨arr', ?_, ?_⟩
    · rw [List.length_cons, List.range'_succ, List.zip_cons_cons, e1]
      exact e4
    · have hvl : v.cells.toList.length = size := by rw [Array.length_toList]; exact hv v (by simp)
      have h1 : (arr.toList.take (k * size)).length = k * size := by rw [List.length_take, Array.length_toList]; omega
      rw [e5, e2, hvl]
      have f1 : (arr.toList.take (k * size) ++ v.cells.toList ++ arr.toList.drop (k * size + size)).take ((k + 1) * size) = arr.toList.take (k * size) ++ v.cells.toList := by
        rw [List.take_append, List.length_append, h1, hvl, List.take_of_length_le (by rw [List.length_append, h1, hvl, Nat.add_mul]; omega), show (k + 1) * size - (k * size + size) = 0 from by rw [Nat.add_mul]; omega]
        simp
      have f2 : (arr.toList.take (k * size) ++ v.cells.toList ++ arr.toList.drop (k * size + size)).drop ((k + 1 + vs.length) * size) = arr.toList.drop ((k + (vs.length + 1)) * size) := by
        have hbig : (k + 1 + vs.length) * size = k * size + size + vs.length * size := by rw [Nat.add_mul, Nat.add_mul, Nat.one_mul]
        rw [hbig, List.drop_append, List.length_append, h1, hvl, List.drop_eq_nil_of_le (by rw [List.length_append, h1, hvl]; omega), List.nil_append, show k * size + size + vs.length * size - (k * size + size) = vs.length * size from by omega, List.drop_drop]
        congr 1
        rw [Nat.add_mul, Nat.add_mul, Nat.one_mul]; omega
      rw [f1, f2]
      simp

theorem litElems_ok {cs : List CT} : ∀ {l : List AV} {vs : List Value} {fr : Bool} {xs : List (CT.denL cs)}, ConcVs w (Imm E w h ρ) h ρ l vs → litElems cs l = some (fr, xs) →
    xs.length = vs.length ∧ (∀ v ∈ vs, v.cells.size = cs.length) ∧ (∀ u ∈ vs.flatMap (fun v => v.cells.toList), u.oneCell' = true) ∧
      ∀ i z, xs[i]? = some z → RepVs w (Imm E w h ρ fr) cs z (((vs.flatMap (fun v => v.cells.toList)).drop (i * cs.length)).take cs.length)
  | [], [], fr, xs, _, he => by
    simp only [litElems, Option.some.injEq, Prod.mk.injEq] at he
    obtain ⟨rfl, rfl⟩ := he
    exact ⟨rfl, by simp, by simp, fun i z hi => by simp at hi⟩
  | [], _ :: _, _, _, hc, _ => by unfold ConcVs at hc; exact hc.elim
  | _ :: _, [], _, _, hc, _ => by unfold ConcVs at hc; exact hc.elim
  | x :: l, v :: vs, fr, xs, hc, he => by
    unfold ConcVs at hc
    simp only [litElems] at he
    cases h1 : toDs cs x.cells with
    | none => rw [h1] at he; simp at he
    | some p =>
      cases h2 : litElems cs l with
      | none => rw [h1, h2] at he; simp at he
      | some q =>
        obtain ⟨f1, y⟩ := p
        obtain ⟨f2, ys⟩ := q
        rw [h1, h2] at he
        simp only [Option.some.injEq, Prod.mk.injEq] at he
        obtain ⟨rfl, rfl⟩ := he
        have hone : ∀ z ∈ x.cells, z.cell = true ∨ z = .z := toDs_one h1
        have hshape : (∃ l, x = .g l) ∨ x.cell = true ∨ x = .z := by
          by_cases hxg : ∃ l, x = .g l
          · exact .inl hxg
          · refine .inr (hone x ?_)
            cases x <;> first | (exfalso; exact hxg ⟨_, rfl⟩) | simp [AV.cells]
        have hxc := agg_cells hc.1 hshape
        have hr := toDs_ok _ _ _ _ _ hxc h1
        have hvl := RepVs_length hr
        obtain ⟨g1, g2, g3, g4⟩ := litElems_ok hc.2 h2
        refine ⟨by simp [g1], fun u hu => ?_, fun u hu => ?_, fun i z hi => ?_⟩
        · simp only [List.mem_cons] at hu
          rcases hu with rfl | hu
          · rw [← Array.length_toList]; exact hvl
          · exact g2 u hu
        · simp only [List.flatMap_cons, List.mem_append] at hu
          rcases hu with hu | hu
          · exact RepVs_one hr u hu
          · exact g3 u hu
        · cases i with
          | zero =>
            simp only [List.getElem?_cons_zero, Option.some.injEq] at hi
            subst hi
            rw [Nat.zero_mul, List.drop_zero, List.flatMap_cons, ← hvl, List.take_left]
            exact RepVs_mono (fun b hb => hb.weaken f2) (fun _ _ => rfl) hr
          | succ i =>
            have := g4 i z (by simpa using hi)
            have e : (v.cells.toList ++ vs.flatMap (fun v => v.cells.toList)).drop (v.cells.toList.length + i * cs.length) = (vs.flatMap (fun v => v.cells.toList)).drop (i * cs.length) := by simp [List.drop_append]
            rw [List.flatMap_cons, show (i + 1) * cs.length = v.cells.toList.length + i * cs.length from by rw [Nat.add_mul, hvl]; omega, e]
            exact RepVs_mono (fun b hb => hb.weaken' f1) (fun _ _ => rfl) this

/-- A slice literal, its parts in order. -/
theorem lit_ok (hc : Conc E st a w ρ) {T : TypeId} {e : TypeId} {agg : Bool} {ces : List CC} {by_ : Nat} (ht : TIOk E.P T (.sl e agg ces by_)) (t : Tmp) {l : List AV} {vs : List Value} {fr : Bool} {xs : List (CT.denL (ces.map (·.c)))}
    (hl : ConcVs w (Imm E w st.heap ρ) st.heap ρ l vs) (he : litElems (ces.map (·.c)) l = some (fr, xs)) (hsmall : l.length * ces.length ≤ 16777216) (parts : Array (Nat × Value)) (hparts : parts.toList = (List.range l.length).zip vs) :
    ∃ w' ρ', (Instr.buildSlice T l.length parts).run E.P w = .ok (.slice (some ⟨w.heap.size, 0, none⟩) l.length l.length) w' ∧
      Conc E ((st.new (name t) (.sl fr e _ xs)).set (some t) (.o (name t))) (a.put (some t) (.slice (some ⟨w.heap.size, 0, none⟩) l.length l.length)) w' ρ' ∧ Below w.heap.size w w' := by
  obtain ⟨i1, i2, z, h1, h2, h3, h4, h5, h6, h7, h8, h9, h10⟩ := ht
  obtain ⟨g1, g2, g3, g4⟩ := litElems_ok hl he
  have hlv : l.length = vs.length := ConcVs_length hl
  have hcl : (ces.map (·.c)).length = ces.length := List.length_map ..
  rw [hcl] at g2
  obtain ⟨zarr, hzarr⟩ : ∃ zarr : Array Value, zarr = (Array.range (l.length * i2.size)).map (z.cells[· % z.cells.size]!) := ⟨_, rfl⟩
  have hzs : zarr.size = l.length * ces.length := by rw [hzarr]; simp [h6]
  obtain ⟨arr', f1, f2⟩ := fill_seq ces.length vs 0 zarr g2 (by rw [hzs, hlv]; simp)
  have hflat : arr'.toList = vs.flatMap (fun v => v.cells.toList) := by
    rw [f2]
    have hd : zarr.toList.drop ((0 + vs.length) * ces.length) = [] := List.drop_eq_nil_of_le (by rw [Array.length_toList, hzs, hlv]; simp)
    rw [hd]
    simp
  have hfl : (vs.flatMap (fun v => v.cells.toList)).length = vs.length * ces.length := by
    clear f2 f1 hflat g4 g3 g1 hl he hparts
    revert g2
    generalize vs = L
    intro g2
    induction L with
    | nil => simp
    | cons v L ih =>
      rw [List.flatMap_cons, List.length_append, ih (fun u hu => g2 u (by simp [hu])), Array.length_toList, g2 v (by simp), List.length_cons, Nat.add_mul]
      omega
  have has : arr'.size = vs.length * ces.length := by rw [← Array.length_toList, hflat, hfl]
  have hrun : (Instr.buildSlice T l.length parts).run E.P w = .ok (.slice (some ⟨w.heap.size, 0, none⟩) l.length l.length) (w.alloc (.cells arr' e)) := by
    have hfill : Instr.fill (fun i => some (i * i2.size, i2.size)) zarr parts.toList = some arr' := by
      rw [h6, hparts, List.range_eq_range', hlv]; exact f1
    have hs : ¬ l.length * i2.size > 2 ^ 24 := by rw [h6]; omega
    by_cases hz : l.length * i2.size = 0
    · have hz0 : zarr = #[] := by
        apply Array.eq_empty_of_size_eq_zero
        rw [hzs, ← h6]; exact hz
      rw [hz0] at hfill
      simp [Instr.buildSlice, run_underlying h1, sizeOf, typeInfo, h5, hz, hfill, newRow, Array.range_zero']
    · rw [hzarr] at hfill
      simp [Instr.buildSlice, run_underlying h1, sizeOf, typeInfo, zeroValue, h5, h9, hs, hz, hfill, newRow]
  have hnew := hc.new (name t) (.sl fr e (ces.map (·.c)) xs) (some (w.heap.size, l.length)) (w.alloc (.cells arr' e)) (.inr ⟨_, _, _, rfl, rfl, rfl⟩)
    (fun keep sub _ _ hstep hI hL => .inr ⟨w.heap.size, l.length, arr', upd_same _ _ _, .inl hc.size, fun _ => hc.size, heap_alloc_new w _, by rw [g1, hlv]; exact Nat.le_refl _, by simp only [maxLen]; have := Nat.le_mul_of_pos_right l.length (Nat.pos_of_ne_zero h7); omega, by rw [has, hcl, hlv], fun i y hi => by
      have hr := g4 i y hi
      have hri := RepVs_L (w' := w.alloc (.cells arr' e)) (b := w.heap.size) (off := i * (ces.map (·.c)).length) hr (fun m v hv => by
        rw [cell_at (heap_alloc_new w _)]
        have hm : m < (ces.map (·.c)).length := by
          have := (List.getElem?_eq_some_iff.1 hv).1
          rwa [RepVs_length hr] at this
        rw [List.getElem?_take, if_pos hm, List.getElem?_drop, ← hflat] at hv
        simpa using hv) (fun b hb => (hI _ b hb).2)
      exact RepL.mono (fun b hb => (hI _ b hb).1) (fun _ _ => rfl) _ _ _ _ rfl hri⟩)
  refine ⟨_, _, hrun, hnew.1.set (some t) ?_, (Below.refl _ w).alloc (Nat.le_refl _) _⟩
  unfold ConcV
  exact ⟨_, _, _, _, new_sl _ _ _ _ _ _, by rw [upd_same]; simp [hdr, g1, hlv]⟩
end
end Go.Proofs.Ai

set_option linter.unusedVariables false
set_option linter.constructorNameAsVariable false
namespace Go.Proofs.Ai
open Go.RowKit

section
variable {E : Env} {P : Program} {st : St} {a : Act} {w w' : World} {h h' : Heap} {ρ ρ' : Rho} {I : Bool → Nat → Prop}

/-! ### 16. Struct literals, slices -/
theorem mapM_get {α β : Type} (g : α → Option β) : ∀ (l : List α), (∀ f ∈ l, ∃ y, g f = some y) → ∃ ys : List β, l.mapM g = some ys ∧ ∀ (j : Nat) (f : α), l[j]? = some f → ys[j]? = g f
  | [], _ => ⟨[], by simp, fun j f hj => by simp at hj⟩
  | x :: l, hl => by
    obtain ⟨y, hy⟩ := hl x (by simp)
    obtain ⟨ys, h1, h2⟩ := mapM_get g l (fun f hf => hl f (by simp [hf]))
    refine ⟨y :: ys, by simp [hy, h1], fun j f hj => ?_⟩
    cases j with
    | zero => simp at hj; subst hj; simp [hy]
    | succ j => simpa using h2 j f (by simpa using hj)
theorem fieldOff_fit : ∀ {fs : List (Bool × List CC)} {i o : Nat} {f : Bool × List CC}, fieldOff fs i = some o → fs[i]? = some f → o + f.2.length ≤ (fs.flatMap (·.2)).length
  | [], i, o, f, h1, _ => by simp [fieldOff] at h1
  | g :: fs, 0, o, f, h1, h2 => by
    simp [fieldOff] at h1 h2
    subst h1; subst h2
    simp
  | g :: fs, i + 1, o, f, h1, h2 => by
    simp only [fieldOff, Option.map_eq_some_iff] at h1
    obtain ⟨o', h3, rfl⟩ := h1
    have := fieldOff_fit h3 (by simpa using h2)
    simp only [List.flatMap_cons, List.length_append]
    omega

theorem part_shape {x : AV} (hx : x.part = true) : (∃ l, x = .g l) ∨ x.cell = true ∨ x = .z := by
  cases x <;> simp [AV.part] at hx <;> simp [hx]

theorem setParts_ok {fs : List (Bool × List CC)} {place : Nat → Option (Nat × Nat)} (hp : ∀ i o f, fieldOff fs i = some o → fs[i]? = some f → place i = some (o, f.2.length))
    (hev : ∀ x, ConcV w I h ρ (evalO st x) (a.eval x)) : ∀ (ops : List (Nat × Operand)) {cells cells' : List AV} {arr : Array Value}, ConcVs w I h ρ cells arr.toList → arr.size = (fs.flatMap (·.2)).length →
      setParts cells fs (ops.map fun p => (p.1, evalO st p.2)) = some cells' → ∃ arr', Instr.fill place arr (ops.map fun p => (p.1, a.eval p.2)) = some arr' ∧ ConcVs w I h ρ cells' arr'.toList
  | [], cells, cells', arr, hc, hs, he => by
    simp only [List.map_nil, setParts, Option.some.injEq] at he
    subst he
    exact ⟨arr, by simp [Instr.fill], hc⟩
  | (i, x) :: ops, cells, cells', arr, hc, hs, he => by
    simp only [List.map_cons, setParts] at he
    cases h1 : fieldOff fs i with
    | none => rw [h1] at he; simp at he
    | some o =>
      cases h2 : fs[i]? with
      | none => rw [h1, h2] at he; simp at he
      | some f =>
        rw [h1, h2] at he
        simp only at he
        split at he
        · rename_i hcond
          have hxc := agg_cells (hev x) (part_shape hcond.2)
          have hlen := ConcVs_length hxc
          have hfit := fieldOff_fit h1 h2
          have hsz : (a.eval x).cells.size = f.2.length := by rw [← Array.length_toList, ← hlen, hcond.1]
          obtain ⟨arr1, e1, e2, e3⟩ := fill_step (place := place) (arr := arr) (i := i) (v := a.eval x) (rest := ops.map fun p => (p.1, a.eval p.2)) (hp i o f h1 h2) hsz (by omega)
          have hput := ConcVs_put (off := o) hxc hc
          rw [← e2] at hput
          obtain ⟨arr', g1, g2⟩ := setParts_ok hp hev ops hput (by rw [e3, hs]) he
          exact ⟨arr', by rw [List.map_cons, e1, g1], g2⟩
        · cases he

theorem build_ok (hev : ∀ x, ConcV w I h ρ (evalO st x) (a.eval x)) {T : TypeId} {ti : TI} (ht : TIOk P T ti) (parts : Array (Nat × Operand)) {y : AV} (he : buildE ti (parts.toList.map fun p => (p.1, evalO st p.2)) = some y) :
    ∃ u, (∀ w1, (Instr.build T (parts.map fun (i, x) => (i, a.eval x))).run P w1 = .ok u w1) ∧ ConcV w I h ρ y u := by
  unfold buildE at he
  split at he
  · rename_i fs
    obtain ⟨pfs, i, zs, h1, h2, h3, h4, h5, h6, h7⟩ := ht
    simp only [Option.map_eq_some_iff] at he
    obtain ⟨cells', hset, rfl⟩ := he
    obtain ⟨places, m1, m2⟩ := mapM_get (fun f : Field => (P.info? f.type).map fun i => (f.offset, i.size)) pfs.toList (fun f hf => by
      obtain ⟨j, hj⟩ := List.getElem?_of_mem hf
      obtain ⟨g, i', _, _, g3, _⟩ := h7 j f (by rw [← Array.getElem?_toList]; exact hj)
      exact ⟨_, by rw [g3]; rfl⟩)
    have hp : ∀ i o f, fieldOff fs i = some o → fs[i]? = some f → (places.toArray[·]?) i = some (o, f.2.length) := by
      intro j o f g1 g2
      have hj : j < pfs.size := by rw [h2]; exact (List.getElem?_eq_some_iff.1 g2).1
      have hpj : pfs[j]? = some pfs[j] := Array.getElem?_eq_getElem hj
      obtain ⟨g, i', k1, k2, k3, k4, _⟩ := h7 j _ hpj
      rw [g1] at k1
      rw [g2] at k2
      simp only [Option.some.injEq] at k1 k2
      subst k1; subst k2
      have := m2 j pfs[j] (by rw [Array.getElem?_toList]; exact hpj)
      simp only [k3, Option.map_some, k4] at this
      simpa using this
    obtain ⟨arr', f1, f2⟩ := setParts_ok hp hev parts.toList (zeros_ok h6) (by rw [← Array.length_toList, ← zerosB_length h6]) hset
    refine ⟨.agg arr', fun w1 => run_build w1 T _ arr' ?_, ?_⟩
    · unfold Program.built
      rw [h3, h1]
      simp only [h5, m1, Value.cells, Array.toList_map]
      exact f1
    · unfold ConcV
      exact ⟨arr'.toList, by simp, f2⟩
  · cases he

theorem sliced_ok {F : Nat → Prop} {cs : List CT} {xs : List (CT.denL cs)} {ad : Option Addr} {cap l h' : Nat} (hr : Rep w F (.l cs) xs (.slice ad xs.length cap)) (h1 : l ≤ h') (h2 : h' ≤ xs.length) :
    Rep w F (.l cs) ((xs.take h').drop l) (sliced ad l h' cap cs.length) := by
  rw [Rep_l] at hr ⊢
  obtain ⟨ad', cap', e, g1, g2, g3, g4⟩ := hr
  simp only [Value.slice.injEq, true_and] at e
  obtain ⟨rfl, rfl⟩ := e
  have hlen : ((xs.take h').drop l).length = h' - l := by rw [List.length_drop, List.length_take]; omega
  refine ⟨_, cap - l, by rw [sliced, hlen], by omega, by omega, ?_, ?_⟩
  · intro hn
    split at hn
    · rw [g3 hn]; omega
    · cases ad with
      | none => rw [g3 rfl]; omega
      | some x => simp at hn
  · intro hne
    have hpos : 0 < h' - l := by rw [← hlen]; exact List.length_pos_iff.2 hne
    have hxs : xs ≠ [] := by intro e; subst e; simp at h2; omega
    obtain ⟨b, off, rfl, hb, hc⟩ := g4 hxs
    refine ⟨b, off + l * cs.length, ?_, hb, fun i y hi => ?_⟩
    · rw [if_neg (by omega)]
      simp only [Option.map_some, Addr.add]
      split
      · rename_i e; simp [e]
      · rfl
    · rw [List.getElem?_drop, List.getElem?_take] at hi
      split at hi
      · have := hc (l + i) y hi
        rwa [show off + l * cs.length + i * cs.length = off + (l + i) * cs.length from by rw [Nat.add_mul]; omega]
      · cases hi

theorem sliceGo_ok (hc : Conc E st a w ρ) {T : TypeId} {ti : TI} (ht : TIOk E.P T ti) {t : Tmp} {fr : Bool} {cs : List CT} {xs : List (CT.denL cs)} {u : Value} {lo hi : Option AV} {vlo vhi : Option Value} {st' : St} {b : Bool}
    (hx : Rep w (Imm E w st.heap ρ fr) (.l cs) xs u) (hlo : ∀ x, lo = some x → ∃ v, vlo = some v ∧ ConcV w I h ρ' x v) (hlo' : lo = none → vlo = none)
    (hhi : ∀ x, hi = some x → ∃ v, vhi = some v ∧ ConcV w I h ρ' x v) (hhi' : hi = none → vhi = none) (he : sliceGo t ti lo hi st fr cs xs = some (b, st')) (hb : b = true) :
    ∃ r, (∀ w1, (Instr.sliceAt T u vlo vhi none).run E.P w1 = .ok r w1) ∧ Conc E st' (a.put (some t) r) w ρ := by
  subst hb
  unfold sliceGo at he
  split at he
  · rename_i e agg ces by_
    obtain ⟨i1, i2, z, h1, h2, h3, h4, h5, h6, h7, h8, h9, h10⟩ := ht
    split at he
    · rename_i hcs
      have hel : E.P.elem T = e := by simp [Program.elem, h1]
      have hT : E.P.underlying T = some (.slice (E.P.elem T)) := by rw [hel]; exact h1
      have hs : ∀ w1, (sizeOf (E.P.elem T)).run E.P w1 = .ok cs.length w1 := by intro w1; rw [hel]; simp [sizeOf, typeInfo, h5, h6, hcs]
      have hx' := hx
      rw [Rep_l] at hx'
      obtain ⟨ad, cap, rfl, g1, g2, g3, g4⟩ := hx'
      have hset : ∀ (ys : List (CT.denL cs)) v, Rep w (Imm E w st.heap ρ fr) (.l cs) ys v → Conc E (st.set (some t) (.d fr cs ys)) (a.put (some t) v) w ρ := by
        intro ys v hv
        refine hc.set (some t) ?_
        unfold ConcV
        exact hv
      split at he
      · have e1 := hlo' rfl
        have e2 := hhi' rfl
        subst e1; subst e2
        simp only [Option.some.injEq, Prod.mk.injEq, true_and] at he
        subst he
        refine ⟨_, fun w1 => by rw [run_sliceAt_slice w1 T _ _ _ _ hT, run_slice_all w1 T ad xs.length cap hT, hs]; rfl, hset _ _ ?_⟩
        have := sliced_ok hx (Nat.zero_le xs.length) (Nat.le_refl _)
        simpa using this
      · rename_i k n
        obtain ⟨v, rfl, hv⟩ := hlo _ rfl
        have e2 := hhi' rfl
        subst e2
        unfold ConcV at hv
        obtain ⟨rfl, _⟩ := hv
        simp only [Option.some.injEq, Prod.mk.injEq, Bool.and_eq_true, decide_eq_true_eq] at he
        obtain ⟨⟨b1, b2⟩, rfl⟩ := he
        refine ⟨_, fun w1 => by rw [run_sliceAt_slice w1 T _ _ _ _ hT, run_slice_l w1 T ad xs.length cap hT k n b1 b2, hs]; rfl, hset _ _ ?_⟩
        have := sliced_ok (l := n.toNat) hx (by omega) (Nat.le_refl _)
        simpa using this
      · rename_i k n
        obtain ⟨v, rfl, hv⟩ := hhi _ rfl
        have e2 := hlo' rfl
        subst e2
        unfold ConcV at hv
        obtain ⟨rfl, _⟩ := hv
        simp only [Option.some.injEq, Prod.mk.injEq, Bool.and_eq_true, decide_eq_true_eq] at he
        obtain ⟨⟨b1, b2⟩, rfl⟩ := he
        refine ⟨_, fun w1 => by rw [run_sliceAt_slice w1 T _ _ _ _ hT, run_slice_h w1 T ad xs.length cap hT k n b1 (by omega), hs]; rfl, hset _ _ ?_⟩
        have := sliced_ok (h' := n.toNat) hx (Nat.zero_le _) (by omega)
        simpa using this
      · rename_i k n k' n'
        obtain ⟨v, rfl, hv⟩ := hlo _ rfl
        obtain ⟨v', rfl, hv'⟩ := hhi _ rfl
        unfold ConcV at hv hv'
        obtain ⟨rfl, _⟩ := hv
        obtain ⟨rfl, _⟩ := hv'
        simp only [Option.some.injEq, Prod.mk.injEq, Bool.and_eq_true, decide_eq_true_eq] at he
        obtain ⟨⟨⟨b1, b2⟩, b3⟩, rfl⟩ := he
        refine ⟨_, fun w1 => by rw [run_sliceAt_slice w1 T _ _ _ _ hT, run_slice_lh w1 T ad xs.length cap hT k k' n n' b1 b2 (by omega), hs]; rfl, hset _ _ ?_⟩
        exact sliced_ok hx (by omega) (by omega)
      · cases he
    · cases he
  · cases he

theorem slice_ok (hc : Conc E st a w ρ) {T : TypeId} {ti : TI} (ht : TIOk E.P T ti) {t : Tmp} {x : Operand} {lo hi : Option Operand} {st' : St} {b : Bool}
    (he : sliceE st t ti x (lo.map (evalO st)) (hi.map (evalO st)) = some (b, st')) (hb : b = true) :
    ∃ r ρ', (∀ w1, (Instr.sliceAt T (a.eval x) (lo.map a.eval) (hi.map a.eval) none).run E.P w1 = .ok r w1) ∧ Conc E st' (a.put (some t) r) w ρ' := by
  have hbd : ∀ (o : Option Operand) (y : AV), o.map (evalO st) = some y → ∃ v, o.map a.eval = some v ∧ ConcV w (Imm E w st.heap ρ) st.heap ρ y v := by
    intro o y ho
    cases o with
    | none => cases ho
    | some o =>
      simp only [Option.map_some, Option.some.injEq] at ho
      subst ho
      exact ⟨_, rfl, hc.eval o⟩
  have hbn : ∀ (o : Option Operand), o.map (evalO st) = none → o.map a.eval = none := by
    intro o ho
    cases o with
    | none => rfl
    | some o => cases ho
  unfold sliceE at he
  have hx := hc.eval x
  cases hev : evalO st x <;> rw [hev] at he hx <;> simp only at he <;> try (cases he; done)
  case d fr cs xs =>
    unfold ConcV at hx
    obtain ⟨r, h1, h2⟩ := sliceGo_ok hc ht hx (hbd lo) (hbn lo) (hbd hi) (hbn hi) he hb
    exact ⟨r, ρ, h1, h2⟩
  case o k =>
    have hf := hc.freeze k
    have hx2 := hf.eval x
    cases hev2 : evalO (st.freeze k) x <;> rw [hev2] at he hx2 <;> simp only at he <;> try (cases he; done)
    case d fr cs xs =>
      unfold ConcV at hx2
      obtain ⟨r, h1, h2⟩ := sliceGo_ok hf ht hx2 (hbd lo) (hbn lo) (hbd hi) (hbn hi) he hb
      exact ⟨r, _, h1, h2⟩
end
end Go.Proofs.Ai

set_option linter.unusedVariables false
set_option linter.constructorNameAsVariable false
set_option linter.unusedSimpArgs false
namespace Go.Proofs.Ai
open Go.RowKit

/-- operations that leave the world alone -/
def floats (o : Op) : Bool :=
  match o with
  | .move _ | .assign _ | .pick _ _ _ | .build _ _ | .load _ _ | .nilCheck _ | .binOp _ _ _ _ _ | .unOp _ _ _ | .convert _ _ _ | .slice _ _ _ _ _ | .fieldAddr _ _ _ | .indexAddr _ _ _ | .extract _ _ | .makeFunc _ _ _ => true
  | .call c => match c.callee with
    | .builtin .len => true
    | .builtin .min => true
    | .builtin .max => true
    | _ => false
  | _ => false

section
variable {E : Env} {P : Program} {st st' : St} {a : Act} {w w' : World} {h h' : Heap} {ρ ρ' : Rho} {I : Bool → Nat → Prop} {τ : TypeId → TI}

/-! ### 17. One operation -/
theorem Conc.z (hc : Conc E st a w ρ) (t : Tmp) (e : TypeId) (cs : List CT) : ∃ ρ', Conc E ((st.new (name t) (.sl true e cs [])).set (some t) (.o (name t))) (a.put (some t) (.slice none 0 0)) w ρ' := by
  have h1 := hc.newNil (name t) e cs
  refine ⟨_, h1.1.set (some t) ?_⟩
  unfold ConcV
  exact ⟨_, _, _, _, new_sl _ _ _ _ _ _, by rw [upd_same]; rfl⟩

theorem opE_float (hτ : ∀ t, TIOk E.P t (τ t)) (hc : Conc E st a w ρ) {o : Oper} (hf : floats o.op = true) {c : Bool} (he : opE τ st o = some (c, st')) (hcc : c = true) :
    ∃ v ρ', (∀ w1, Below w.heap.size w w1 → (execOp a.eval o).run E.P w1 = .ok (.value v) w1) ∧ Conc E st' (a.put o.dst v) w ρ' := by
  subst hcc
  obtain ⟨dst, op, type, pos, after, guard⟩ := o
  cases dst with
  | none => cases op <;> simp only [opE] at he <;> first | (cases he; done) | (simp [floats] at hf; done) | skip
  | some t =>
    have hval : ∀ {x : AV} {v : Value}, ConcV w (Imm E w st.heap ρ) st.heap ρ x v → ∀ {s : St}, (some (true, st.set (some t) x) : Option (Bool × St)) = some (true, s) → Conc E s (a.put (some t) v) w ρ := by
      intro x v hx s hs
      simp only [Option.some.injEq, Prod.mk.injEq, true_and] at hs
      subst hs
      exact hc.set (some t) hx
    have hmove : ∀ (x : Operand), (match evalO st x with
        | .z => match τ type with
          | .sl e _ ces _ => some (true, (st.new (name t) (.sl true e (ces.map (·.c)) [])).set (some t) (.o (name t)))
          | _ => none
        | .bad => none
        | y => some (true, st.set (some t) y)) = some (true, st') → ∃ ρ', Conc E st' (a.put (some t) (a.eval x)) w ρ' := by
      intro x hh
      have hx := hc.eval x
      split at hh
      · rename_i hz
        rw [hz] at hx
        unfold ConcV at hx
        rw [hx]
        split at hh
        · simp only [Option.some.injEq, Prod.mk.injEq, true_and] at hh
          subst hh
          exact hc.z t _ _
        · cases hh
      · cases hh
      · exact ⟨ρ, hval hx hh⟩
    cases op <;> simp only [floats] at hf <;> try (cases hf; done)
    case move x =>
      obtain ⟨ρ', h1⟩ := hmove x he
      exact ⟨_, ρ', fun w1 _ => by simp [execOp], h1⟩
    case assign x =>
      obtain ⟨ρ', h1⟩ := hmove x he
      exact ⟨_, ρ', fun w1 _ => by simp [execOp], h1⟩
    case pick x y z =>
      simp only [opE, Option.bind_eq_some_iff] at he
      obtain ⟨r, h1, h2⟩ := he
      obtain ⟨q, e1, e2⟩ := pick_ok (hc.eval x) (hc.eval y) (hc.eval z) h1
      exact ⟨_, ρ, fun w1 _ => by simp [execOp, e1, asBool], hval e2 h2⟩
    case build T parts =>
      simp only [opE, Option.bind_eq_some_iff] at he
      obtain ⟨r, h1, h2⟩ := he
      obtain ⟨u, e1, e2⟩ := build_ok (P := E.P) (fun x => hc.eval x) (hτ T) parts h1
      exact ⟨_, ρ, fun w1 _ => by simp [execOp, Sem.run_bind, e1], hval e2 h2⟩
    case load T x =>
      simp only [opE, Option.bind_eq_some_iff] at he
      obtain ⟨r, h1, h2⟩ := he
      obtain ⟨u, e1, e2⟩ := load_ok hc.blk (hτ T) (hc.eval x) h1
      exact ⟨_, ρ, fun w1 hw1 => by simp [execOp, Sem.run_bind, e1 w1 hw1], hval e2 h2⟩
    case nilCheck x =>
      simp only [opE] at he
      have hx := hc.eval x
      cases hev : evalO st x <;> rw [hev] at he hx <;> simp only at he <;> try (cases he; done)
      case p k off =>
        have := hval hx he
        unfold ConcV at hx
        obtain ⟨cells, g, cc, _, _, hu⟩ := hx
        exact ⟨_, ρ, fun w1 _ => by simp [execOp, hu], this⟩
      case q fr cs y =>
        have := hval hx he
        unfold ConcV at hx
        obtain ⟨b, off, hu, _⟩ := hx
        exact ⟨_, ρ, fun w1 _ => by simp [execOp, hu], this⟩
      case e k i j =>
        have := hval hx he
        unfold ConcV at hx
        obtain ⟨fr, e, cs, xs, g, cc, _, _, _, hu⟩ := hx
        exact ⟨_, ρ, fun w1 _ => by simp [execOp, hu], this⟩
    case binOp op T x y ty =>
      simp only [opE] at he
      cases hb : binE op (evalO st x) (evalO st y) with
      | none => rw [hb] at he; simp at he
      | some p =>
        obtain ⟨c, r⟩ := p
        rw [hb] at he
        simp only [Option.some.injEq, Prod.mk.injEq] at he
        obtain ⟨hcc, rfl⟩ := he
        obtain ⟨u, e1, e2⟩ := bin_ok (P := E.P) (t := T) (X := x) (Y := y) (hc.eval x) (hc.eval y) hb hcc
        exact ⟨_, ρ, fun w1 _ => by simp only [execOp, Sem.run_bind]; have := e1 w1; simp only [Sem.run_bind] at this; rw [this]; simp, hc.set (some t) e2⟩
    case unOp op T x =>
      simp only [opE, Option.bind_eq_some_iff] at he
      obtain ⟨r, h1, h2⟩ := he
      obtain ⟨u, e1, e2⟩ := un_ok (P := E.P) (hc.eval x) h1
      exact ⟨_, ρ, fun w1 _ => by simp [execOp, Sem.run_bind, e1], hval e2 h2⟩
    case convert s e x =>
      simp only [opE] at he
      have hx := hc.eval x
      have hs := hτ s
      have hte := hτ e
      split at he
      · rename_i c1 k k' n es ee ev
        rw [es] at hs
        rw [ee] at hte
        rw [ev] at hx
        obtain ⟨d, i, z, h1, h2, _⟩ := hs
        obtain ⟨d', i', z', g1, g2, _⟩ := hte
        unfold ConcV at hx
        obtain ⟨hu, hok⟩ := hx
        have hd' : d' = .int k := by
          cases d' <;> simp [scD] at g2
          rw [g2]
        subst hd'
        exact ⟨_, ρ, fun w1 _ => by simp [execOp, convert, run_underlying h1, run_underlying g1, hu, Conv.intToInt], hval (conc_v (x := .int k (k.wrap n)) (intOk_wrap k n)) he⟩
      · cases he
    case slice T x lo hi mx =>
      cases mx with
      | some m => simp [opE] at he
      | none =>
        simp only [opE] at he
        obtain ⟨r, ρ', e1, e2⟩ := slice_ok hc (hτ T) he rfl
        exact ⟨r, ρ', fun w1 _ => by simp [execOp, Sem.run_bind, e1], e2⟩
    case fieldAddr T x i =>
      simp only [opE, Option.bind_eq_some_iff] at he
      obtain ⟨r, h1, h2⟩ := he
      obtain ⟨u, e1, e2⟩ := fieldAddr_ok (hτ T) (hc.eval x) h1
      exact ⟨_, ρ, fun w1 _ => by simp [execOp, Sem.run_bind, e1], hval e2 h2⟩
    case indexAddr T x i =>
      simp only [opE] at he
      cases hb : indexAddrE st.heap (τ T) (evalO st x) (evalO st i) with
      | none => rw [hb] at he; simp at he
      | some p =>
        obtain ⟨c, r⟩ := p
        rw [hb] at he
        simp only [Option.some.injEq, Prod.mk.injEq] at he
        obtain ⟨hcc, rfl⟩ := he
        obtain ⟨u, e1, e2⟩ := indexAddr_ok hc.blk (hτ T) (hc.eval x) (hc.eval i) hb hcc
        exact ⟨_, ρ, fun w1 _ => by simp [execOp, Sem.run_bind, e1], hc.set (some t) e2⟩
    case makeFunc fn first captured =>
      obtain ⟨first⟩ := first
      cases fn <;> simp only [opE] at he <;> try (cases he; done)
      case func fn =>
        cases first with
        | cons y ys => simp at he
        | nil =>
          have hcaps : ConcVs w (Imm E w st.heap ρ) st.heap ρ (captured.toList.map (evalO st)) (captured.toList.map a.eval) := by
            refine ConcVs_of (by simp) (fun i x u hx hu => ?_)
            rw [List.getElem?_map] at hx hu
            cases hi : captured.toList[i]? with
            | none => rw [hi] at hx; simp at hx
            | some z =>
              rw [hi] at hx hu
              simp only [Option.map_some, Option.some.injEq] at hx hu
              subst hx; subst hu
              exact hc.eval z
          have hx : ConcV w (Imm E w st.heap ρ) st.heap ρ (.f fn (captured.toList.map (evalO st))) (.func (.func fn) #[] (captured.map a.eval)) := by
            unfold ConcV
            exact ⟨_, by rw [← Array.toList_map], hcaps⟩
          exact ⟨_, ρ, fun w1 _ => by simp [execOp, Instr.makeFunc], hval hx he⟩
    case extract x i =>
      simp only [opE] at he
      have hx := hc.eval x
      cases hev : evalO st x <;> rw [hev] at he hx <;> simp only at he <;> try (cases he; done)
      case t l =>
        simp only [Option.bind_eq_some_iff] at he
        obtain ⟨r, h1, h2⟩ := he
        unfold ConcV at hx
        obtain ⟨us, hu, hl⟩ := hx
        obtain ⟨u, g1, g2⟩ := ConcVs_get hl i r h1
        exact ⟨u, ρ, fun w1 _ => by simp [execOp, Sem.run_bind, Instr.extract, hu, g1], hval g2 h2⟩
    case call cl =>
      obtain ⟨callee, args, argTypes⟩ := cl
      cases callee <;> simp only at hf <;> try (cases hf; done)
      case builtin b =>
        obtain ⟨args⟩ := args
        obtain ⟨argTypes⟩ := argTypes
        cases b <;> simp only at hf <;> try (cases hf; done)
        case len =>
          simp only [opE] at he
          split at he
          · rename_i x e
            simp only [Option.bind_eq_some_iff] at he
            obtain ⟨n, h1, h2⟩ := he
            have hx := hc.eval x
            have hte := hτ e
            unfold lenT at h1
            split at h1
            · rename_i s e1 e2
              rw [e2] at hx
              rw [e1] at hte
              obtain ⟨d, i, z, g1, g2, _⟩ := hte
              have hd : d = .string := by cases d <;> simp [scD] at g2; rfl
              subst hd
              simp only [Option.some.injEq] at h1
              subst h1
              unfold ConcV at hx
              obtain ⟨hu, hok⟩ := hx
              refine ⟨.int .i64 s.size, ρ, fun w1 _ => ?_, hval (conc_v ?_) h2⟩
              · simp [execOp, resolve, invoke, builtin, Sem.run_bind, hu, run_len_string w1 e type s g1, goInt]
              · show IntOk .i64 _
                have : s.size ≤ maxLen := hok
                rw [intOk_iff]
                simp [IntKind.min, IntKind.max, IntKind.signed, IntKind.bits, maxLen] at this ⊢
                omega
            · cases h1
            · rename_i e' ag ces by_ e1 hnv
              rw [e1] at hte
              obtain ⟨i1, i2, z, g1, _⟩ := hte
              have hT : E.P.underlying e = some (.slice (E.P.elem e)) := by simp [Program.elem, g1]
              rcases len_ok hc.blk hx h1 with ⟨s, hu, _⟩ | ⟨ad, l, cc, hu, rfl, hle⟩
              · exfalso
                rw [hu] at hx
                have key : ∀ Y, ConcV w (Imm E w st.heap ρ) st.heap ρ Y (.string s) → lenE st.heap Y = some n → (∀ x, Y = .v x → False) → False := by
                  intro Y hx h1 hnv
                  cases Y <;> simp only [lenE] at h1 <;> try (cases h1; done)
                  case v y => exact hnv _ rfl
                  case z => unfold ConcV at hx; cases hx
                  case d => unfold ConcV at hx; rw [Rep_l] at hx; obtain ⟨_, _, e, _⟩ := hx; cases e
                  case o k =>
                    unfold ConcV at hx
                    obtain ⟨_, _, _, _, _, e⟩ := hx
                    cases hr : ρ k with
                    | none => rw [hr] at e; cases e
                    | some p => rw [hr] at e; cases e
                exact key _ hx h1 hnv
              · refine ⟨.int .i64 l, ρ, fun w1 _ => ?_, hval (conc_v ?_) h2⟩
                · simp [execOp, resolve, invoke, builtin, Sem.run_bind, hu, run_len_slice w1 e type ad l cc hT, goInt]
                · show IntOk .i64 _
                  rw [intOk_iff]
                  simp [IntKind.min, IntKind.max, IntKind.signed, IntKind.bits, maxLen] at hle ⊢
                  omega
            · cases h1
          · cases he
        case min =>
          simp only [opE] at he
          split at he
          · rename_i k p k' q hl
            obtain ⟨x, y, rfl, hxy⟩ : ∃ x y, args = [x, y] ∧ evalO st x = .v (.int k p) ∧ evalO st y = .v (.int k' q) := by
              cases args with
              | nil => simp at hl
              | cons x r => cases r with
                | nil => simp at hl
                | cons y r => cases r with
                  | nil => exact ⟨x, y, rfl, by simpa using hl⟩
                  | cons z r => simp at hl
            have hx := hc.eval x
            have hy := hc.eval y
            rw [hxy.1] at hx
            rw [hxy.2] at hy
            unfold ConcV at hx hy
            obtain ⟨hu, h1⟩ := hx
            obtain ⟨hv, h2⟩ := hy
            split at he
            · rename_i hk
              subst hk
              refine ⟨.int k (bif decide (q < p) then q else p), ρ, fun w1 _ => ?_, hval (conc_v ?_) he⟩
              · by_cases hpq : q < p <;> simp [execOp, resolve, invoke, builtin, Sem.run_bind, hu, hv, Builtin.min_, Builtin.min2, hpq]
              · by_cases hpq : q < p <;> simp [hpq] <;> assumption
            · cases he
          · cases he
        case max =>
          simp only [opE] at he
          split at he
          · rename_i k p k' q hl
            obtain ⟨x, y, rfl, hxy⟩ : ∃ x y, args = [x, y] ∧ evalO st x = .v (.int k p) ∧ evalO st y = .v (.int k' q) := by
              cases args with
              | nil => simp at hl
              | cons x r => cases r with
                | nil => simp at hl
                | cons y r => cases r with
                  | nil => exact ⟨x, y, rfl, by simpa using hl⟩
                  | cons z r => simp at hl
            have hx := hc.eval x
            have hy := hc.eval y
            rw [hxy.1] at hx
            rw [hxy.2] at hy
            unfold ConcV at hx hy
            obtain ⟨hu, h1⟩ := hx
            obtain ⟨hv, h2⟩ := hy
            split at he
            · rename_i hk
              subst hk
              refine ⟨.int k (bif decide (q > p) then q else p), ρ, fun w1 _ => ?_, hval (conc_v ?_) he⟩
              · by_cases hpq : p < q <;> simp [execOp, resolve, invoke, builtin, Sem.run_bind, hu, hv, Builtin.max_, Builtin.max2, hpq]
              · by_cases hpq : p < q <;> simp [hpq] <;> assumption
            · cases he
          · cases he
end
end Go.Proofs.Ai

set_option linter.unusedVariables false
set_option linter.constructorNameAsVariable false
namespace Go.Proofs.Ai
open Go.RowKit

/-! ### 26. Other integers where integers stood -/
theorem IntEqO.refl (o : Option Obj) : IntEqO o o := .inl rfl
theorem IntEqO.trans {o o' o'' : Option Obj} (h : IntEqO o o') (h' : IntEqO o' o'') : IntEqO o o'' := by
  rcases h with rfl | ⟨c, c1, t, fz, e1, e2, e3, e4⟩
  · exact h'
  · rcases h' with rfl | ⟨d, d1, t', fz', g1, g2, g3, g4⟩
    · exact .inr ⟨c, c1, t, fz, e1, e2, e3, e4⟩
    · rw [e2] at g1
      simp only [Option.some.injEq, Obj.cells.injEq] at g1
      obtain ⟨rfl, rfl, rfl⟩ := g1
      refine .inr ⟨c, d1, t, fz, e1, g2, g3.trans e3, fun j v hv => ?_⟩
      rcases e4 j v hv with h | ⟨k, n, n', rfl, h, hk⟩
      · exact g4 j v h
      · rcases g4 j _ h with h2 | ⟨k', m, m', e, h2, hk'⟩
        · exact .inr ⟨k, n, n', rfl, h2, hk⟩
        · simp only [Value.int.injEq] at e
          obtain ⟨rfl, rfl⟩ := e
          exact .inr ⟨k, n, m', rfl, h2, hk'⟩

section
variable {E : Env} {P : Program} {st : St} {a : Act} {w w' : World} {h h' : Heap} {ρ ρ' : Rho} {I I' : Bool → Nat → Prop}

theorem cellInt {b o : Nat} {u : Value} (hb : IntEqO (w.heap[b]?) (w'.heap[b]?)) (hu : w.cell? ⟨b, o, none⟩ = some u) : w'.cell? ⟨b, o, none⟩ = some u ∨ ∃ k n n', u = .int k n ∧ w'.cell? ⟨b, o, none⟩ = some (.int k n') ∧ IntOk k n' := by
  rcases hb with e | ⟨c, c', t, fz, e1, e2, e3, e4⟩
  · exact .inl ((World.cell?_of_block (a := ⟨b, o, none⟩) e).trans hu)
  · rw [show w.cell? ⟨b, o, none⟩ = c[o]? from by simp [World.cell?, e1]] at hu
    rw [show w'.cell? ⟨b, o, none⟩ = c'[o]? from by simp [World.cell?, e2]]
    exact e4 o u hu

mutual
theorem Rep.int {F F' : Nat → Prop} (hF : ∀ b, F b → F' b ∧ IntEqO (w.heap[b]?) (w'.heap[b]?)) : (c : CT) → (x : c.den) → (u : Value) → c.noI = true → Rep w F c x u → Rep w' F' c x u
  | .i k, n, u, hn, h => by simp [CT.noI] at hn
  | .any k, n, u, hn, h => h
  | .one, n, u, hn, h => h
  | .ptr cs, x, u, hn, h => by
    unfold CT.noI at hn
    unfold Rep at h ⊢
    obtain ⟨b, off, e, hb, hr⟩ := h
    exact ⟨b, off, e, (hF b hb).1, RepL.int hF cs x b off hn (hF b hb).2 hr⟩
  | .clo fn cs, x, u, hn, h => by
    unfold CT.noI at hn
    unfold Rep at h ⊢
    obtain ⟨us, e, hr⟩ := h
    exact ⟨us, e, RepM.int hF cs x us hn hr⟩
  | .b, x, u, hn, h => h
  | .s, x, u, hn, h => h
  | .l cs, xs, u, hn, h => by
    unfold CT.noI at hn
    unfold Rep at h ⊢
    obtain ⟨a, cap, e, h1, h2, h3, h4⟩ := h
    refine ⟨a, cap, e, h1, h2, h3, fun hne => ?_⟩
    obtain ⟨b, off, ea, hb, h5⟩ := h4 hne
    exact ⟨b, off, ea, (hF b hb).1, fun i y hi => RepL.int hF cs _ b _ hn (hF b hb).2 (h5 i y hi)⟩
theorem RepL.int {F F' : Nat → Prop} (hF : ∀ b, F b → F' b ∧ IntEqO (w.heap[b]?) (w'.heap[b]?)) : (cs : List CT) → (x : CT.denL cs) → (b o : Nat) → CT.noIL cs = true → IntEqO (w.heap[b]?) (w'.heap[b]?) → RepL w F cs x b o → RepL w' F' cs x b o
  | [], _, _, _, _, _, _ => by unfold RepL; trivial
  | [c], x, b, o, hn, hb, h => by
    simp only [CT.noIL, Bool.and_true] at hn
    unfold RepL at h ⊢
    obtain ⟨u, h1, h2⟩ := h
    have h3 := Rep.int hF c x u hn h2
    rcases cellInt hb h1 with h | ⟨k, n, n', rfl, h, hk⟩
    · exact ⟨u, h, h3⟩
    · refine ⟨_, h, ?_⟩
      cases c with
      | any k' =>
        obtain ⟨m, e, hm⟩ := h3
        simp only [Value.int.injEq] at e
        obtain ⟨rfl, rfl⟩ := e
        exact ⟨n', rfl, hk⟩
      | i k' => simp [CT.noI] at hn
      | b => cases h3
      | s => cases h3.1
      | l cs => obtain ⟨_, _, e, _⟩ := h3; cases e
      | one => rfl
      | ptr cs => obtain ⟨_, _, e, _⟩ := h3; cases e
      | clo fn cs => obtain ⟨_, e, _⟩ := h3; cases e
  | c :: d :: cs, x, b, o, hn, hb, h => by
    unfold CT.noIL at hn
    simp only [Bool.and_eq_true] at hn
    unfold RepL at h ⊢
    obtain ⟨⟨u, h1, h2⟩, h3⟩ := h
    refine ⟨?_, RepL.int hF (d :: cs) x.2 b (o + 1) hn.2 hb h3⟩
    have h3 := Rep.int hF c x.1 u hn.1 h2
    rcases cellInt hb h1 with h | ⟨k, n, n', rfl, h, hk⟩
    · exact ⟨u, h, h3⟩
    · refine ⟨_, h, ?_⟩
      cases c with
      | any k' =>
        obtain ⟨m, e, hm⟩ := h3
        simp only [Value.int.injEq] at e
        obtain ⟨rfl, rfl⟩ := e
        exact ⟨n', rfl, hk⟩
      | i k' => simp [CT.noI] at hn
      | b => cases h3
      | s => cases h3.1
      | l cs => obtain ⟨_, _, e, _⟩ := h3; cases e
      | one => rfl
      | ptr cs => obtain ⟨_, _, e, _⟩ := h3; cases e
      | clo fn cs => obtain ⟨_, e, _⟩ := h3; cases e
theorem RepM.int {F F' : Nat → Prop} (hF : ∀ b, F b → F' b ∧ IntEqO (w.heap[b]?) (w'.heap[b]?)) : (cs : List CT) → (x : CT.denL cs) → (us : List Value) → CT.noIL cs = true → RepM w F cs x us → RepM w' F' cs x us
  | [], _, us, hn, h => by unfold RepM at h ⊢; exact h
  | [c], x, us, hn, h => by
    simp only [CT.noIL, Bool.and_true] at hn
    unfold RepM at h ⊢
    obtain ⟨u, e, h⟩ := h
    exact ⟨u, e, Rep.int hF c x u hn h⟩
  | c :: d :: cs, x, us, hn, h => by
    unfold CT.noIL at hn
    simp only [Bool.and_eq_true] at hn
    unfold RepM at h ⊢
    obtain ⟨u, r, e, h1, h2⟩ := h
    exact ⟨u, r, e, Rep.int hF c x.1 u hn.1 h1, RepM.int hF (d :: cs) x.2 r hn.2 h2⟩
end

mutual
theorem ConcV.int (hI : ∀ fr b, I fr b → I' fr b ∧ IntEqO (w.heap[b]?) (w'.heap[b]?)) : (x : AV) → (u : Value) → x.noI = true → ConcV w I h ρ x u → ConcV w' I' h ρ x u
  | .v x, u, hn, hc => by unfold ConcV at hc ⊢; exact hc
  | .any x, u, hn, hc => by unfold ConcV at hc ⊢; exact hc
  | .one, u, hn, hc => by unfold ConcV at hc ⊢; exact hc
  | .z, u, hn, hc => by unfold ConcV at hc ⊢; exact hc
  | .d fr cs xs, u, hn, hc => by
    unfold AV.noI at hn
    unfold ConcV at hc ⊢
    exact Rep.int (hI fr) (.l cs) xs u (by unfold CT.noI; exact hn) hc
  | .q fr cs x, u, hn, hc => by
    unfold AV.noI at hn
    unfold ConcV at hc ⊢
    obtain ⟨b, off, e, hb, hr⟩ := hc
    exact ⟨b, off, e, (hI fr b hb).1, RepL.int (hI fr) cs x b off hn (hI fr b hb).2 hr⟩
  | .o k, u, hn, hc => by unfold ConcV at hc ⊢; exact hc
  | .p k off, u, hn, hc => by unfold ConcV at hc ⊢; exact hc
  | .e k i j, u, hn, hc => by unfold ConcV at hc ⊢; exact hc
  | .g l, u, hn, hc => by
    unfold AV.noI at hn
    unfold ConcV at hc ⊢
    obtain ⟨us, e, hl⟩ := hc
    exact ⟨us, e, ConcVs.int hI l us hn hl⟩
  | .t l, u, hn, hc => by
    unfold AV.noI at hn
    unfold ConcV at hc ⊢
    obtain ⟨us, e, hl⟩ := hc
    exact ⟨us, e, ConcVs.int hI l us hn hl⟩
  | .f fn l, u, hn, hc => by
    unfold AV.noI at hn
    unfold ConcV at hc ⊢
    obtain ⟨us, e, hl⟩ := hc
    exact ⟨us, e, ConcVs.int hI l us hn hl⟩
  | .u, u, hn, hc => by unfold ConcV at hc ⊢; exact hc
  | .pn x a, u, hn, hc => by
    unfold AV.noI at hn
    unfold ConcV at hc ⊢
    exact ⟨hc.1, ConcV.int hI a u hn hc.2⟩
  | .bad, u, hn, hc => by unfold ConcV; trivial
theorem ConcVs.int (hI : ∀ fr b, I fr b → I' fr b ∧ IntEqO (w.heap[b]?) (w'.heap[b]?)) : (l : List AV) → (us : List Value) → AV.noIL l = true → ConcVs w I h ρ l us → ConcVs w' I' h ρ l us
  | [], us, hn, hc => by cases us <;> (unfold ConcVs at hc ⊢; exact hc)
  | x :: l, us, hn, hc => by
    unfold AV.noIL at hn
    simp only [Bool.and_eq_true] at hn
    cases us with
    | nil => unfold ConcVs at hc; exact hc.elim
    | cons u us =>
      unfold ConcVs at hc ⊢
      exact ⟨ConcV.int hI x u hn.1 hc.1, ConcVs.int hI l us hn.2 hc.2⟩
end

theorem noI_get : ∀ {h : Heap}, (h.all fun p => AB.noI p.2) = true → ∀ {k : Nat} {ab : AB}, hget h k = some ab → ab.noI = true
  | [], _, k, ab, hg => by simp [hget] at hg
  | (n, b) :: h, ha, k, ab, hg => by
    simp only [List.all_cons, Bool.and_eq_true] at ha
    simp only [hget] at hg
    split at hg
    · simp only [Option.some.injEq] at hg; subst hg; exact ha.1
    · exact noI_get ha.2 hg

/-- Integers have been written where arguments lie. -/
theorem Conc.wrote (hc : Conc E st a w ρ) (hn : st.noI = true) (her : E.er = true) (hos : w'.os = w.os) (ht : w'.tape = w.tape) (hout : w'.output = w.output) (hsz : w.heap.size ≤ w'.heap.size)
    (hw : ∀ b, b < w.heap.size → w'.heap[b]? = w.heap[b]? ∨ ((∃ fr, Imm E w st.heap ρ fr b) ∧ IntEqO (w.heap[b]?) (w'.heap[b]?))) : Conc E st a w' ρ := by
  simp only [St.noI, Bool.and_eq_true] at hn
  have hown : ∀ b, Own st.heap ρ b → w'.heap[b]? = w.heap[b]? := by
    intro b ho
    rcases hw b (hc.lt ho) with h | ⟨⟨fr, hi⟩, _⟩
    · exact h
    · exact (hi.2.1 ho).elim
  have hI : ∀ fr b, Imm E w st.heap ρ fr b → Imm E w' st.heap ρ fr b ∧ IntEqO (w.heap[b]?) (w'.heap[b]?) := by
    intro fr b hb
    have hq : IntEqO (w.heap[b]?) (w'.heap[b]?) := by
      rcases hw b hb.1 with h | ⟨_, h⟩
      · rw [h]; exact .refl _
      · exact h
    refine ⟨⟨Nat.lt_of_lt_of_le hb.1 hsz, hb.2.1, hb.2.2.1, hb.2.2.2.1, fun he => ?_⟩, hq⟩
    obtain ⟨c, t, e⟩ := hb.2.2.2.2 he
    rcases hq with h | ⟨c1, c2, t', fz, e1, e2, _⟩
    · exact ⟨c, t, by rw [h, e]⟩
    · rw [e] at e1
      simp only [Option.some.injEq, Obj.cells.injEq] at e1
      obtain ⟨rfl, rfl, rfl⟩ := e1
      exact ⟨c2, t, e2⟩
  refine ⟨ConcVs.int hI _ _ hn.1 hc.tmp, hc.dfr, fun k ab hg => ?_, hc.inj, fun b h1 h2 => ?_, Nat.le_trans hc.size hsz, hos.trans hc.os, ht.trans hc.tape, hout.trans hc.output⟩
  · have hb := hc.blk k ab hg
    have hnk := noI_get hn.2 hg
    cases ab with
    | box cells =>
      obtain ⟨g, c, T, cur, e1, e2, e3, e4⟩ := hb
      exact ⟨g, c, T, cur, e1, e2, by rw [hown g ⟨k, _, c, hg, e1⟩, e3], ConcVs.int hI _ _ hnk e4⟩
    | sl fr e cs xs =>
      rcases hb with hb | ⟨g, cap, cur, e1, e2, hfr, e3, e4, e5, e6, e7⟩
      · exact .inl hb
      · have hsame := hown g ⟨k, _, cap, hg, e1⟩
        exact .inr ⟨g, cap, cur, e1, e2, hfr, by rw [hsame, e3], e4, e5, e6, fun i y hi => RepL.int (hI fr) cs y g _ hnk (by rw [hsame]; exact .refl _) (e7 i y hi)⟩
  · have hlt : b < w.heap.size := Nat.lt_of_lt_of_le h1 hc.size
    have hfrm := hc.frm b h1 h2
    rcases hw b hlt with h | ⟨⟨fr, hi⟩, hq⟩
    · rw [h]; exact hfrm
    · have hF : E.F b := by
        cases fr with
        | true => have := hi.2.2.1 rfl; omega
        | false => rcases hi.2.2.2.1 rfl with h | h | h; exact h; omega; exact (h2 h).elim
      refine .inr ⟨her, hF, ?_⟩
      rcases hfrm with h | ⟨_, _, h⟩
      · rw [← h]; exact hq
      · exact h.trans hq

theorem put_get' {cur us : List Value} {o n : Nat} (ho : o + us.length ≤ cur.length) : (cur.take o ++ us ++ cur.drop (o + us.length))[n]? = if o ≤ n ∧ n < o + us.length then us[n - o]? else cur[n]? := by
  by_cases h1 : n < o
  · rw [if_neg (by omega), List.append_assoc, List.getElem?_append_left (by simp; omega), List.getElem?_take, if_pos h1]
  · by_cases h2 : n < o + us.length
    · rw [if_pos ⟨by omega, h2⟩, List.append_assoc, List.getElem?_append_right (by simp; omega), List.length_take, Nat.min_eq_left (by omega), List.getElem?_append_left (by omega)]
    · rw [if_neg (by omega), List.getElem?_append_right (by simp; omega), List.getElem?_drop]
      congr 1
      simp
      omega

theorem storeAny_ok (hc : Conc E st a w ρ) {t : TypeId} {ti : TI} (ht : TIOk E.P t ti) {er : Bool} (her : er = true → E.er = true) {fr : Bool} {cs : List CT} {x : CT.denL cs} {v : AV} {u p : Value} {st' : St}
    (hp : ConcV w (Imm E w st.heap ρ) st.heap ρ (.q fr cs x) p) (hv : ConcV w (Imm E w st.heap ρ) st.heap ρ v u) (he : storeAny er st ti cs v = some st') :
    ∃ w', (Instr.storeAt t p u).run E.P w = .ok () w' ∧ Conc E st' a w' ρ := by
  obtain ⟨k, cs', c0, n, rfl, rfl, rfl, rfl, hok, hst, rfl, hn⟩ : ∃ k cs' c0 n, er = true ∧ ti = .sc c0 ∧ cs = .any k :: cs' ∧ u = .int k n ∧ IntOk k n ∧ True ∧ st' = st ∧ st.noI = true := by
    unfold storeAny at he
    split at he
    · rename_i c0 k cs' k' n
      split at he
      · rename_i hk
        subst hk
        cases hn : st.noI with
        | false => rw [hn] at he; cases he
        | true =>
          rw [hn] at he
          simp only [cond_true, Option.some.injEq] at he
          unfold ConcV at hv
          exact ⟨k, cs', c0, n, rfl, rfl, rfl, hv.1, hv.2, trivial, he.symm, rfl⟩
      · cases he
    · rename_i c0 k cs' k'
      split at he
      · rename_i hk
        subst hk
        cases hn : st.noI with
        | false => rw [hn] at he; cases he
        | true =>
          rw [hn] at he
          simp only [cond_true, Option.some.injEq] at he
          unfold ConcV at hv
          obtain ⟨n, e, hn'⟩ := hv
          exact ⟨k, cs', c0, n, rfl, rfl, rfl, e, hn', trivial, he.symm, rfl⟩
      · cases he
    · cases he
  unfold ConcV at hp
  obtain ⟨b, off, rfl, hb, hr⟩ := hp
  rw [RepL_cons] at hr
  obtain ⟨⟨u0, h1, m, h2, h3⟩, _⟩ := hr
  subst h2
  obtain ⟨cur, T, hcur⟩ := hb.2.2.2.2 (.inl (her rfl))
  rw [cell_at hcur] at h1
  have hlt : off < cur.size := (Array.getElem?_eq_some_iff.1 h1).1
  have hrun := run_storeCells_at E.P b off T [.int k n] 0 cur w hcur (by simp; omega) (by simp [Value.oneCell'])
  obtain ⟨d, i, z, t1, t2, t3, t4, _⟩ := ht
  refine ⟨_, by simp [Instr.storeAt, Instr.sureAddr, storeVar, sizeOf, typeInfo, t3, t4, Value.cells]; exact hrun, ?_⟩
  refine hc.wrote hn (her rfl) rfl rfl rfl (by simp) (fun b' hb' => ?_)
  by_cases e : b' = b
  · subst e
    refine .inr ⟨⟨fr, hb⟩, .inr ⟨cur, _, T, (0, 0), hcur, setRow_heap w b' cur _ T (0, 0) hcur, ?_, fun j v hj => ?_⟩⟩
    · simp; omega
    · rw [List.getElem?_toArray, put_get' (by simp; omega)]
      by_cases hj' : j = off
      · subst hj'
        rw [h1] at hj
        simp only [Option.some.injEq] at hj
        subst hj
        exact .inr ⟨k, m, n, rfl, by simp, hok⟩
      · have : ¬ (off + 0 ≤ j ∧ j < off + 0 + [Value.int k n].length) := by simp; omega
        rw [if_neg this]
        exact .inl (by simpa using hj)
  · exact .inl (setRow_other w b b' _ e)
end
end Go.Proofs.Ai

set_option linter.unusedVariables false
set_option linter.constructorNameAsVariable false
set_option linter.unusedSimpArgs false
namespace Go.Proofs.Ai
open Go.RowKit

/-- operations that leave what there is alone -/
def growsO (o : Op) : Bool :=
  match o with
  | .alloc _ | .box _ _ | .buildSlice _ _ _ | .makeSlice _ _ _ => true
  | .call c => match c.callee with
    | .builtin _ => floats (.call c)
    | .value _ => true
    | _ => false
  | o => floats o

section
variable {E : Env} {P : Program} {st st' : St} {a : Act} {w w' : World} {h h' : Heap} {ρ ρ' : Rho} {I : Bool → Nat → Prop} {τ : TypeId → TI}

/-- What an operation that is no call and does not float comes to. -/
def Did (E : Env) (o : Oper) (a : Act) (w : World) (st' : St) : Prop :=
  ∃ w' ρ', (growsO o.op = true → Below w.heap.size w w') ∧ ((∃ v, (execOp a.eval o).run E.P w = .ok (.value v) w' ∧ Conc E st' (a.put o.dst v) w' ρ') ∨ ((execOp a.eval o).run E.P w = .ok .skip w' ∧ Conc E st' (a.put o.dst undef) w' ρ'))

theorem boxE_shape {t : Tmp} {ti : TI} {x : AV} (he : boxE st t ti x.cells = some st') : (∃ l, x = .g l) ∨ x.cell = true ∨ x = .z := by
  unfold boxE at he
  cases hti : ti.cells with
  | none => rw [hti] at he; simp at he
  | some p =>
    obtain ⟨agg, ces⟩ := p
    rw [hti] at he
    simp only at he
    split at he
    · rename_i hcond
      exact fixZ_cell hcond.2.1 hcond.1
    · cases he

theorem opE_rest (hτ : ∀ t, TIOk E.P t (τ t)) (her : erOf τ = true → E.er = true) (hc : Conc E st a w ρ) {o : Oper} (hf : floats o.op = false) {c : Bool} (he : opE τ st o = some (c, st')) (hcc : c = true) :
    Did E o a w st' := by
  subst hcc
  obtain ⟨dst, op, type, pos, after, guard⟩ := o
  have hbl : ∀ ob, Below w.heap.size w (w.alloc ob) := fun ob => (Below.refl _ w).alloc (Nat.le_refl _) ob
  cases op <;> simp only [floats] at hf <;> try (cases hf; done)
  case alloc e =>
    cases dst with
    | none => simp [opE] at he
    | some t =>
      simp only [opE] at he
      cases hti : (τ e).cells with
      | none => rw [hti] at he; simp at he
      | some p =>
        obtain ⟨agg, ces⟩ := p
        rw [hti] at he
        simp only [Option.map_eq_some_iff, Prod.mk.injEq, true_and] at he
        obtain ⟨s, h1, rfl⟩ := he
        obtain ⟨i, i1, i2, z, i3, i4⟩ := size_ok (hτ e) hti
        obtain ⟨ρ', h2⟩ := box_ok hc (zeros_ok i4) h1 e
        refine ⟨_, ρ', fun _ => hbl _, .inl ⟨_, ?_, h2⟩⟩
        simp [execOp, Instr.alloc, zeroValue, typeInfo, i1, i3, newVar, newRow]
  case box e x =>
    cases dst with
    | none => simp [opE] at he
    | some t =>
      simp only [opE, Option.map_eq_some_iff, Prod.mk.injEq, true_and] at he
      obtain ⟨s, h1, rfl⟩ := he
      obtain ⟨ρ', h2⟩ := box_ok hc (agg_cells (hc.eval x) (boxE_shape h1)) h1 e
      refine ⟨_, ρ', fun _ => hbl _, .inl ⟨_, ?_, h2⟩⟩
      simp [execOp, Instr.box, newVar, newRow]
  case buildSlice T len parts =>
    cases dst with
    | none => simp [opE] at he
    | some t =>
      simp only [opE] at he
      split at he
      · rename_i hparts
        simp only [Option.map_eq_some_iff, Prod.mk.injEq, true_and] at he
        obtain ⟨s, h1, rfl⟩ := he
        unfold buildSliceE at h1
        split at h1
        · rename_i e agg ces by_ hti
          have hT := hτ T
          rw [hti] at hT
          simp only at h1
          split at h1
          · rename_i fr xs e1 e2
            simp only [Option.some.injEq] at h1
            subst h1
            obtain ⟨ρ1, d1, _, _⟩ := hc.freezeAll (ownsL (((parts.toList.map (·.2)).map (evalO st)).flatMap AV.cells))
            obtain ⟨S, hS⟩ : ∃ S, S = st.freezeAll (ownsL (((parts.toList.map (·.2)).map (evalO st)).flatMap AV.cells)) := ⟨_, rfl⟩
            rw [← hS] at e1 d1 ⊢
            have hl : ConcVs w (Imm E w S.heap ρ1) S.heap ρ1 ((parts.toList.map (·.2)).map (evalO S)) ((parts.toList.map (·.2)).map a.eval) := by
              refine ConcVs_of (by simp) (fun i x u hx hu => ?_)
              rw [List.getElem?_map] at hx hu
              cases hi : (parts.toList.map (·.2))[i]? with
              | none => rw [hi] at hx; simp at hx
              | some y =>
                rw [hi] at hx hu
                simp only [Option.map_some, Option.some.injEq] at hx hu
                subst hx; subst hu
                exact d1.eval y
            have hlen : ((parts.toList.map (·.2)).map (evalO S)).length = len := by
              have := congrArg List.length hparts
              simpa using this
            have hsmall : ((parts.toList.map (·.2)).map (evalO S)).length * ces.length ≤ 16777216 := by
              have := Nat.le_of_ble_eq_true e2
              simpa using this
            have hzip : (parts.map fun (i, x) => (i, a.eval x)).toList = (List.range ((parts.toList.map (·.2)).map (evalO S)).length).zip ((parts.toList.map (·.2)).map a.eval) := by
              rw [hlen, ← hparts]
              simp only [Array.toList_map]
              generalize parts.toList = L
              clear hl hsmall hlen e1 e2 hparts d1 hS
              induction L with
              | nil => simp
              | cons p L ih => simpa using ih
            obtain ⟨w', ρ', r1, r2, r3⟩ := lit_ok d1 hT t hl e1 hsmall (parts.map fun (i, x) => (i, a.eval x)) hzip
            rw [hlen] at r1 r2
            refine ⟨w', ρ', fun _ => r3, .inl ⟨_, ?_, r2⟩⟩
            simp [execOp, r1]
          · cases h1
        · cases h1
      · cases he
  case store T p x =>
    cases dst with
    | some t => simp [opE] at he
    | none =>
      simp only [opE, Option.map_eq_some_iff, Prod.mk.injEq, true_and] at he
      obtain ⟨s, h1, rfl⟩ := he
      have hp := hc.eval p
      unfold storeE at h1
      split at h1
      · rename_i fr cs y hev
        rw [hev] at hp
        obtain ⟨w', r1, r2⟩ := storeAny_ok hc (hτ T) her hp (hc.eval x) h1
        refine ⟨w', ρ, fun hg => by simp [growsO, floats] at hg, .inr ⟨?_, r2⟩⟩
        simp [execOp, r1]
      · rename_i k off hev
        rw [hev] at hp
        unfold ConcV at hp
        obtain ⟨cells, g, cc, g1, g2, g3⟩ := hp
        obtain ⟨w', ρ', r1, r2⟩ := storeBox_ok hc (hτ T) (hc.eval x) g2 h1
        refine ⟨w', ρ', fun hg => by simp [growsO, floats] at hg, .inr ⟨?_, r2⟩⟩
        simp [execOp, g3, r1]
      · rename_i k i j hev
        rw [hev] at hp
        simp only at h1
        split at h1
        · cases h1
        · rename_i hk
          have hk' : k ∉ ownsL (evalO st x).cells := by simpa using hk
          obtain ⟨ρ1, d1, d2, d3⟩ := hc.freezeAll (ownsL (evalO st x).cells)
          have hp' : ConcV w (Imm E w (st.freezeAll (ownsL (evalO st x).cells)).heap ρ1) (st.freezeAll (ownsL (evalO st x).cells)).heap ρ1 (.e k i j) (a.eval p) := by
            unfold ConcV at hp ⊢
            obtain ⟨fr, e, cs, xs, g, cc, g1, g2, g3, g4⟩ := hp
            exact ⟨fr, e, cs, xs, g, cc, d3 k hk' _ _ _ _ g1, by rw [d2 k hk', g2], g3, g4⟩
          obtain ⟨w', r1, r2⟩ := storeElem_ok d1 (hτ T) (d1.eval x) hp' h1
          refine ⟨w', ρ1, fun hg => by simp [growsO, floats] at hg, .inr ⟨?_, r2⟩⟩
          simp [execOp, r1]
      · cases h1
  case makeSlice T l cp =>
    cases dst with
    | none => simp [opE] at he
    | some t =>
      simp only [opE] at he
      obtain ⟨r, w', ρ', r1, r2, r3⟩ := make_ok hc (hτ T) (hc.eval l) (hc.eval cp) he rfl
      exact ⟨w', ρ', fun _ => r3, .inl ⟨r, by simp [execOp, r1], r2⟩⟩
  case call cl =>
    obtain ⟨callee, args, argTypes⟩ := cl
    obtain ⟨args⟩ := args
    obtain ⟨argTypes⟩ := argTypes
    cases dst with
    | none => simp [opE] at he
    | some t =>
      cases callee <;> simp only [opE] at he <;> try (cases he; done)
      case builtin b =>
        cases b <;> simp only at he hf <;> try (first | (cases he; done) | (cases hf; done))
        case append =>
          split at he
          · rename_i x y e e'
            split at he
            · rename_i hee
              subst hee
              obtain ⟨r, w', ρ', r1, r2⟩ := append_ok hc type (hτ e') (hc.eval x) (hc.eval y) he rfl
              refine ⟨w', ρ', fun hg => by simp [growsO, floats] at hg, .inl ⟨r, ?_, r2⟩⟩
              simp [execOp, resolve, invoke, builtin, r1]
            · cases he
          · cases he
  all_goals (cases dst <;> simp [opE] at he)
end
end Go.Proofs.Ai
