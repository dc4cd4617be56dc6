/- A general part of the proof: the walker by abstract values and its soundness, for every program; no condition. -/
import Derived.Test.YtjeedadfhoiedaaGreatA5
import Derived.ProofKit
set_option linter.unusedVariables false
set_option linter.unusedSimpArgs false
namespace Go.Proofs.Ai
open Go.RowKit Go.ChangeShapes Go.WideShapes

/-! ### 33. What is read of an argument, as data -/
def flatFs (P : Program) (g : TypeId → Option (List CT)) : List Field → Nat → Option (List CT)
  | [], _ => some []
  | f :: r, o => if f.offset = o then (g f.type).bind fun cs => if P.cellsOf f.type = cs.length then (flatFs P g r (o + cs.length)).map (cs ++ ·) else none else none
/-- the cells of a type, if data -/
def flat (P : Program) : Nat → TypeId → Option (List CT)
  | 0, _ => none
  | n + 1, t =>
    match P.underlying t with
    | some (.int k) => some [.i k]
    | some .bool => some [.b]
    | some .string => some [.s]
    | some (.slice e) => (flat P n e).bind fun cs => if P.cellsOf e = cs.length ∧ cs.length ≠ 0 then some [.l cs] else none
    | some (.struct fs) => (flatFs P (flat P n) fs.toList 0).bind fun cs => if P.cellsOf t = cs.length then some cs else none
    | _ => none
theorem RepVs_append {w : World} {F : Nat → Prop} {ds : List CT} {y : CT.denL ds} {vs : List Value} (h2 : RepVs w F ds y vs) : ∀ {cs : List CT} {x : CT.denL cs} {us : List Value}, RepVs w F cs x us → ∃ z : CT.denL (cs ++ ds), RepVs w F (cs ++ ds) z (us ++ vs)
  | [], x, us, h => by
    unfold RepVs at h
    subst h
    exact ⟨y, h2⟩
  | c :: cs, x, us, h => by
    unfold RepVs at h
    obtain ⟨u, r, rfl, h1, h3⟩ := h
    obtain ⟨z, hz⟩ := RepVs_append h2 h3
    refine ⟨cons (c := c) (cs := cs ++ ds) (hd x) z, ?_⟩
    show RepVs w F (c :: (cs ++ ds)) (cons (hd x) z) (u :: (r ++ vs))
    unfold RepVs
    exact ⟨u, r ++ vs, rfl, by rw [hd_cons]; exact h1, by rw [tl_cons]; exact hz⟩
theorem RepVs_n1 {w : World} {F : Nat → Prop} {x : CT.denL []} : RepVs w F [] x [] := by unfold RepVs; rfl
theorem RepVs_k1 {w : World} {F : Nat → Prop} {c : CT} {cs : List CT} {x : c.den} {y : CT.denL cs} {u : Value} {r : List Value} (h : Rep w F c x u) (h2 : RepVs w F cs y r) : RepVs w F (c :: cs) (cons x y) (u :: r) := by
  unfold RepVs
  exact ⟨u, r, rfl, by rw [hd_cons]; exact h, by rw [tl_cons]; exact h2⟩
theorem RepVs_c1 {w : World} {F : Nat → Prop} {c : CT} {x : c.den} {u : Value} (h : Rep w F c x u) : RepVs w F [c] x [u] :=
  RepVs_k1 (cs := []) (y := ()) h (RepVs_n1 (x := ()))
section
variable {H : Type} {enc : TypeId × Value → H} {P : Program} {w : World} {spare : Nat → Bool} {held : Bool}
/-- what came in is data -/
abbrev Old (w : World) (b : Nat) : Prop := b < w.heap.size
theorem flatFs_ok {g : TypeId → Option (List CT)} {n : Nat} {vs : List Value}
    (IH : ∀ (t : TypeId) (cs : List CT) (us : List Value) (x : DataW H × List MemPlace), g t = some cs → DataW.trod enc P w 0 spare held n t us = some x → ∃ y : CT.denL cs, RepVs w (Old w) cs y us) :
    ∀ (r : List Field) (o : Nat) (cs : List CT), flatFs P g r o = some cs → (∀ f ∈ r, ∃ x, DataW.trod enc P w 0 spare held n f.type ((vs.drop f.offset).take (P.cellsOf f.type)) = some x) → ∃ y : CT.denL cs, RepVs w (Old w) cs y ((vs.drop o).take cs.length)
  | [], o, cs, h, _ => by
    simp only [flatFs, Option.some.injEq] at h
    subst h
    refine ⟨(), ?_⟩
    show RepVs w (Old w) ([] : List CT) () ((vs.drop o).take 0)
    rw [List.take_zero]
    exact RepVs_n1
  | f :: r, o, cs, h, hr => by
    simp only [flatFs] at h
    split at h
    · rename_i ho
      obtain ⟨c1, h1, h⟩ := Option.bind_eq_some_iff.1 h
      split at h
      · rename_i hl
        obtain ⟨c2, h2, rfl⟩ := Option.map_eq_some_iff.1 h
        obtain ⟨x, hx⟩ := hr f (by simp)
        obtain ⟨y1, hy1⟩ := IH _ _ _ _ h1 hx
        obtain ⟨y2, hy2⟩ := flatFs_ok IH r _ c2 h2 (fun f hf => hr f (List.mem_cons_of_mem _ hf))
        obtain ⟨z, hz⟩ := RepVs_append hy2 hy1
        refine ⟨z, ?_⟩
        have e : (vs.drop o).take (c1 ++ c2).length = (vs.drop f.offset).take (P.cellsOf f.type) ++ (vs.drop (o + c1.length)).take c2.length := by
          rw [List.length_append, List.take_add, List.drop_drop, ho, hl]
        rw [e]
        exact hz
      · cases h
    · cases h
theorem flat_ok : ∀ (m n : Nat) (t : TypeId) (cs : List CT) (vs : List Value) (x : DataW H × List MemPlace), flat P m t = some cs → DataW.trod enc P w 0 spare held n t vs = some x → ∃ y : CT.denL cs, RepVs w (Old w) cs y vs
  | 0, n, t, cs, vs, x, h, _ => by cases h
  | m + 1, n, t, cs, vs, x, h, hx => by
    simp only [flat] at h
    split at h
    · rename_i k ht
      cases h
      obtain ⟨n', rfl, rfl, hw⟩ := DataW.trod_int ht hx
      exact ⟨n', RepVs_c1 (c := .i k) ⟨rfl, hw⟩⟩
    · rename_i ht
      cases h
      obtain ⟨b, rfl, rfl⟩ := DataW.trod_bool ht hx
      exact ⟨b, RepVs_c1 (c := .b) rfl⟩
    · rename_i ht
      cases h
      obtain ⟨s, rfl, rfl, hs⟩ := DataW.trod_string ht hx
      exact ⟨s, RepVs_c1 (c := .s) ⟨rfl, hs⟩⟩
    · rename_i e ht
      obtain ⟨c1, h1, h⟩ := Option.bind_eq_some_iff.1 h
      split at h
      · rename_i hl
        cases h
        rcases DataW.trod_slice ht hx with ⟨rfl, rfl⟩ | ⟨a, len, cap, elems, rest, n', rfl, rfl, rfl, _, hlc, hcm, hel, hi, _, _⟩
        · refine ⟨([] : List (CT.denL c1)), RepVs_c1 (c := .l c1) ⟨none, 0, rfl, Nat.le_refl _, Nat.zero_le _, fun _ => rfl, fun h => absurd rfl h⟩⟩
        · have h0 : 0 < c1.length := Nat.pos_of_ne_zero hl.2
          have hsp : 0 < len → a.spot = none ∧ a.block < w.heap.size := by
            intro hpos
            have h2 := hi 0 hpos
            rw [List.getElem?_eq_getElem (by omega)] at h2
            obtain ⟨us, h3, h4⟩ := Option.bind_eq_some_iff.1 h2
            obtain ⟨_, hul, hcell⟩ := World.cells?_some h3
            have hblk := World.cells?_block h3 (by rw [hl.1]; exact h0)
            have hsp := World.cell?_spot ((hcell 0 (by rw [hl.1]; exact h0)).trans (List.getElem?_eq_getElem (by rw [hul, hl.1]; exact h0)))
            exact ⟨by simpa [Addr.add] using hsp, by simpa [Addr.add] using hblk⟩
          have hE : ∀ i : Fin len, ∃ y : CT.denL c1, RepL w (Old w) c1 y a.block (a.off + i.1 * c1.length) := by
            rintro ⟨i, hil⟩
            have h2 := hi i hil
            rw [List.getElem?_eq_getElem (by omega)] at h2
            obtain ⟨us, h3, h4⟩ := Option.bind_eq_some_iff.1 h2
            obtain ⟨y, hy⟩ := flat_ok m n' e c1 us _ h1 h4
            obtain ⟨_, hul, hcell⟩ := World.cells?_some h3
            obtain ⟨hs, _⟩ := hsp (by omega)
            refine ⟨y, RepVs_L hy (fun j v hj => ?_) (fun _ _ => rfl)⟩
            have hjl : j < P.cellsOf e := by
              have := (List.getElem?_eq_some_iff.1 hj).1
              omega
            have h5 := hcell j hjl
            rw [hj, hl.1] at h5
            rw [← h5]
            obtain ⟨b, o, s⟩ := a
            cases hs
            simp only [add_plain]
          obtain ⟨Y, hY⟩ := Classical.axiomOfChoice hE
          refine ⟨(List.ofFn Y : List (CT.denL c1)), RepVs_c1 (c := .l c1) ?_⟩
          have hlen : (els (cs := c1) (List.ofFn Y)).length = len := List.length_ofFn
          refine ⟨some a, cap, by rw [hlen], by rw [hlen]; exact hlc, hcm, (fun h => by cases h), fun hne => ?_⟩
          have hpos : 0 < len := by
            rcases Nat.eq_zero_or_pos len with h0 | h0
            · exfalso; apply hne; apply List.length_eq_zero_iff.1; rw [hlen, h0]
            · exact h0
          obtain ⟨h6, h7⟩ := hsp hpos
          refine ⟨a.block, a.off, ?_, h7, fun i y hy => ?_⟩
          · obtain ⟨b, o, s⟩ := a
            cases h6
            rfl
          · have hil : i < len := by
              have := (List.getElem?_eq_some_iff.1 hy).1
              omega
            have h8 : Y ⟨i, hil⟩ = y := by
              have h9 : (List.ofFn Y)[i]? = some y := hy
              rw [List.getElem?_ofFn] at h9
              simpa [hil] using h9
            rw [← h8]
            exact hY ⟨i, hil⟩
      · cases h
    · rename_i fs ht
      obtain ⟨c1, h1, h⟩ := Option.bind_eq_some_iff.1 h
      split at h
      · rename_i hl
        cases h
        obtain ⟨xs, n', rfl, rfl, hvl, hxl, hf⟩ := DataW.trod_struct ht hx
        obtain ⟨y, hy⟩ := flatFs_ok (vs := vs) (fun t cs us x => flat_ok m n' t cs us x) fs.toList 0 cs h1 (fun f hf' => by
          obtain ⟨i, hi⟩ := List.mem_iff_getElem?.1 hf'
          have hi' : fs[i]? = some f := by simpa using hi
          have hlt : i < fs.size := (Array.getElem?_eq_some_iff.1 hi').1
          rw [hf i f hi', List.getElem?_eq_getElem (by omega)]
          exact ⟨_, rfl⟩)
        refine ⟨y, ?_⟩
        have e : (vs.drop 0).take cs.length = vs := by
          rw [List.drop_zero, List.take_of_length_le (by omega)]
        rwa [e] at hy
      · cases h
    · cases h
end
end Go.Proofs.Ai
