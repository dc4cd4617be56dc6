/- A part of the proof that the law FnExactHonestReach returns true: contracts of the functions that it calls, or the plain facts behind them; each holds for every input that its premises name. -/
import Derived.Test.YtjeedadfhoiedaaGreatB10
import Derived.Test.YtjeedadfhoiedaaGreatB11
import Derived.Test.YtjeedadfhoiedaaGreatB12
import Derived.Test.YtjeedadfhoiedaaGreatA5
import Derived.Deep.RegionWith
set_option linter.unusedVariables false
namespace Go.Proofs.Ai
open Go.RowKit

abbrev cW : List CT := [.i .i64, .l c176, .l c167, .i .i64, .i .i64, .i .i64, .i .i64, .l c171, .l c176, .i .i64, .l c110, .l c114, .l c3, .l c3, .l c117, .l c176, .i .i64, .i .i64, .i .i64]
abbrev caW : List CT := [.any .i64, .l ca176, .l ca167, .any .i64, .any .i64, .any .i64, .any .i64, .l ca171, .l ca176, .any .i64, .l ca110, .l ca114, .l ca3, .l ca3, .l ca117, .l ca176, .any .i64, .any .i64, .any .i64]
theorem erW : CT.erL cW = caW := by kernel_rfl

/-! what one holds in the middle of the law -/
structure Dat (W : World) (G : Nat → Prop) (c : CT) (x : c.den) (u : Value) : Prop where
  rep : Rep W G c x u
  lt : ∀ b, G b → b < W.heap.size
structure DatS (W : World) (G : Nat → Prop) (cs : List CT) (x : CT.denL cs) (us : List Value) : Prop where
  rep : RepVs W G cs x us
  lt : ∀ b, G b → b < W.heap.size
structure Box (W : World) (b : Nat) (vs : Array Value) (T : TypeId) : Prop where
  blk : W.heap[b]? = some (.cells vs T (0, 0))
theorem Dat.step {W W' : World} {G : Nat → Prop} {c : CT} {x : c.den} {u : Value} (h : Dat W G c x u) (hb : Below W.heap.size W W') : Dat W' G c x u :=
  ⟨Rep.mono (fun _ h => h) (fun b hg => hb.block b (h.lt b hg)) c x u h.rep, fun b hg => Nat.lt_of_lt_of_le (h.lt b hg) hb.size⟩
theorem DatS.step {W W' : World} {G : Nat → Prop} {cs : List CT} {x : CT.denL cs} {us : List Value} (h : DatS W G cs x us) (hb : Below W.heap.size W W') : DatS W' G cs x us :=
  ⟨RepVs_mono (fun _ h => h) (fun b hg => hb.block b (h.lt b hg)) h.rep, fun b hg => Nat.lt_of_lt_of_le (h.lt b hg) hb.size⟩
theorem Box.step {W W' : World} {b : Nat} {vs : Array Value} {T : TypeId} (h : Box W b vs T) (hb : Below W.heap.size W W') : Box W' b vs T :=
  ⟨(hb.block b (Array.getElem?_eq_some_iff.1 h.blk).1).trans h.blk⟩
theorem moved_block {W W' : World} {F : Nat → Prop} (hm : Moved true F W W') {b : Nat} (hb : b < W.heap.size) (hd : ¬ F b) : W'.heap[b]? = W.heap[b]? := by
  rcases hm.2.2.2.2 b hb with h | ⟨_, h, _⟩
  · exact h
  · exact (hd h).elim
theorem Dat.moved {W W' : World} {F G : Nat → Prop} {c : CT} {x : c.den} {u : Value} (h : Dat W G c x u) (hm : Moved true F W W') (hd : ∀ b, G b → ¬ F b) : Dat W' G c x u :=
  ⟨Rep.mono (fun _ h => h) (fun b hg => moved_block hm (h.lt b hg) (hd b hg)) c x u h.rep, fun b hg => Nat.lt_of_lt_of_le (h.lt b hg) hm.2.2.2.1⟩
theorem DatS.moved {W W' : World} {F G : Nat → Prop} {cs : List CT} {x : CT.denL cs} {us : List Value} (h : DatS W G cs x us) (hm : Moved true F W W') (hd : ∀ b, G b → ¬ F b) : DatS W' G cs x us :=
  ⟨RepVs_mono (fun _ h => h) (fun b hg => moved_block hm (h.lt b hg) (hd b hg)) h.rep, fun b hg => Nat.lt_of_lt_of_le (h.lt b hg) hm.2.2.2.1⟩
theorem Box.moved {W W' : World} {F : Nat → Prop} {b : Nat} {vs : Array Value} {T : TypeId} (h : Box W b vs T) (hm : Moved true F W W') (hd : ¬ F b) : Box W' b vs T :=
  ⟨(moved_block hm (Array.getElem?_eq_some_iff.1 h.blk).1 hd).trans h.blk⟩
theorem Box.lt {W : World} {b : Nat} {vs : Array Value} {T : TypeId} (h : Box W b vs T) : b < W.heap.size := (Array.getElem?_eq_some_iff.1 h.blk).1
theorem Box.cell {W : World} {b : Nat} {vs : Array Value} {T : TypeId} (h : Box W b vs T) (j : Nat) : W.cell? ⟨b, j, none⟩ = vs[j]? := cell_at h.blk j

/-! the contracts as they are used -/
theorem ok1 : IntOk .i64 (1 : Int) := intOk_small (by decide) (by decide)
theorem okM : IntOk .i64 (1048576 : Int) := intOk_small (by decide) (by decide)
theorem res1 {W : World} {F : Nat → Prop} {c : CT} {y : c.den} {v : Value} (h : ResOk W F [(false, [c])] y v) : Rep W F c y v := by
  obtain ⟨vs, ⟨u, r, rfl, ⟨u', r', e', h5, h6⟩, h3⟩, rfl⟩ := h
  have h3' : r = [] := h3
  subst h3'
  have h6' : r' = [] := h6
  subst h6'
  cases e'
  exact h5
theorem resS {W : World} {F : Nat → Prop} {cs : List CT} {y : CT.denL cs} {v : Value} (h : ResOk W F [(true, cs)] y v) : ∃ us : List Value, v = .agg us.toArray ∧ RepVs W F cs y us := by
  obtain ⟨vs, ⟨u, r, rfl, ⟨us, rfl, h5⟩, h3⟩, rfl⟩ := h
  have h3' : r = [] := h3
  subst h3'
  exact ⟨us, rfl, h5⟩
theorem nineteen {W : World} {F : Nat → Prop} {y : CT.denL cW} {us : List Value} (h : RepVs W F cW y us) : ∃ x0 x1 x2 x3 x4 x5 x6 x7 x8 x9 x10 x11 x12 x13 x14 x15 x16 x17 x18 : Value, us = [x0, x1, x2, x3, x4, x5, x6, x7, x8, x9, x10, x11, x12, x13, x14, x15, x16, x17, x18] := by
  have hl := RepVs_length h
  match us, hl with
  | [x0, x1, x2, x3, x4, x5, x6, x7, x8, x9, x10, x11, x12, x13, x14, x15, x16, x17, x18], _ => exact ⟨x0, x1, x2, x3, x4, x5, x6, x7, x8, x9, x10, x11, x12, x13, x14, x15, x16, x17, x18, rfl⟩
/-- the answer -/
def ansW (d : CT.denL cW) : List Int := rnS (cutH (d.1, d.2.1) d.2.2.2.2.2.2.2.2.2.2.2.2.1) 0
theorem call4 {W : World} {F : Nat → Prop} {d : CT.denL cW} {us : List Value} (h : DatS W F cW d us) :
    Calls Tryz.prog 4 #[.agg us.toArray, .int .i64 1048576] W fun e W' => e = .returned (.int .i64 (szR (costL cW d) 1048576)) ∧ Below W.heap.size W W' := by
  refine (s4.2 (d, (1048576 : Int)) (szR (costL cW d) 1048576) (gsz_ok (cs := cW) (x := d) (l := 1048576) (by decide) (by decide)) W F [.agg us.toArray, .int .i64 1048576] h.lt (fun h => by cases h) ⟨_, _, rfl, ⟨us, rfl, h.rep⟩, ⟨_, [], rfl, ⟨_, _, rfl, ⟨rfl, okM⟩, rfl⟩, rfl⟩⟩).mono ?_
  rintro e W' ⟨v, rfl, hm, hres⟩
  have h1 := res1 (c := .i .i64) hres
  exact ⟨by rw [h1.1], Moved.below hm⟩
theorem call6 {W : World} {F : Nat → Prop} {d : CT.denL cW} {us : List Value} (h : DatS W F cW d us) (hs : smallL cW d = true) :
    Calls Tryz.prog 6 #[.agg us.toArray] W fun e W' => ∃ x0 x1 x2 x3 x4 x5 x6 x7 x8 x9 x10 x11 x12 x13 x14 x15 x16 x17 x18 : Value, e = .returned (.agg #[x0, x1, x2, x3, x4, x5, x6, x7, x8, x9, x10, x11, x12, x13, x14, x15, x16, x17, x18]) ∧ Below W.heap.size W W' ∧ DatS W' (ResF true W F W') cW d [x0, x1, x2, x3, x4, x5, x6, x7, x8, x9, x10, x11, x12, x13, x14, x15, x16, x17, x18] := by
  refine (s6.2 d d (gto_ok hs) W F [.agg us.toArray] h.lt (fun h => by cases h) ⟨_, _, rfl, ⟨us, rfl, h.rep⟩, rfl⟩).mono ?_
  rintro e W' ⟨v, rfl, hm, hres⟩
  obtain ⟨vs, rfl, h1⟩ := resS hres
  obtain ⟨x0, x1, x2, x3, x4, x5, x6, x7, x8, x9, x10, x11, x12, x13, x14, x15, x16, x17, x18, rfl⟩ := nineteen h1
  refine ⟨x0, x1, x2, x3, x4, x5, x6, x7, x8, x9, x10, x11, x12, x13, x14, x15, x16, x17, x18, rfl, Moved.below hm, ⟨h1, fun b hb => ?_⟩⟩
  rcases hb with hb | ⟨h, _⟩
  · exact hb.2.1
  · cases h
theorem pcut_ok {g : Gr} {b : List Int} (h : g.2.length ≤ 1048576) : pcut (g, b) = some (cutH g b) := by
  unfold pcut
  rw [decide_eq_true (show (g, b).1.2.length ≤ 1048576 from h)]
  rfl
theorem ansP {d : CT.denL cW} (hs : smallL cW d = true) : (pcut ((d.1, d.2.1), d.2.2.2.2.2.2.2.2.2.2.2.2.1)).bind (fun y => some (rnS y 0)) = some (ansW d) := by
  have hs' : (smallD (.i .i64) d.1 && smallL (cW.drop 1) d.2) = true := hs
  have hs2 : (smallD (.l c176) d.2.1 && smallL (cW.drop 2) d.2.2) = true := (Bool.and_eq_true_iff.1 hs').2
  have h3 := (small_l (cs := c176) (xs := d.2.1) (Bool.and_eq_true_iff.1 hs2).1).1
  exact congrArg (fun o => Option.bind o fun y => some (rnS y 0)) (pcut_ok (g := (d.1, d.2.1)) (b := d.2.2.2.2.2.2.2.2.2.2.2.2.1) h3)
theorem resL {W : World} {F : Nat → Prop} {xs : List Int} {v : Value} (h : Rep W F (.l c3) xs v) : ∃ a cap, v = .slice a xs.length cap := by
  obtain ⟨a, cap, rfl, _⟩ := h
  exact ⟨a, cap, rfl⟩
theorem call5 {W : World} {F : Nat → Prop} {d : CT.denL cW} {us : List Value} (h : DatS W F cW d us) (hs : smallL cW d = true) :
    Calls Tryz.prog 5 #[.agg us.toArray] W fun e W' => ∃ u, e = .returned u ∧ Below W.heap.size W W' ∧ Dat W' (ResF true W F W') (.l c3) (ansW d) u := by
  refine (s5.2 d (ansW d) (ansP hs) W F [.agg us.toArray] h.lt (fun h => by cases h) ⟨_, _, rfl, ⟨us, rfl, h.rep⟩, rfl⟩).mono ?_
  rintro e W' ⟨v, rfl, hm, hres⟩
  refine ⟨v, rfl, Moved.below hm, ⟨res1 (c := .l c3) hres, fun b hb => ?_⟩⟩
  rcases hb with hb | ⟨h, _⟩
  · exact hb.2.1
  · cases h
theorem call7 {W : World} {F : Nat → Prop} {d : CT.denL cW} {us : List Value} (h : DatS W F cW d us) (hs : smallL cW d = true) :
    Calls Tryz.prog 7 #[.agg us.toArray] W fun e W' => ∃ u, e = .returned u ∧ Below W.heap.size W W' ∧ Dat W' (ResF true W F W') (.l c3) (ansW d) u := by
  refine (s7.2 d (ansW d) (ansP hs) W F [.agg us.toArray] h.lt (fun h => by cases h) ⟨_, _, rfl, ⟨us, rfl, h.rep⟩, rfl⟩).mono ?_
  rintro e W' ⟨v, rfl, hm, hres⟩
  refine ⟨v, rfl, Moved.below hm, ⟨res1 (c := .l c3) hres, fun b hb => ?_⟩⟩
  rcases hb with hb | ⟨h, _⟩
  · exact hb.2.1
  · cases h
theorem call8 {W : World} {F G : Nat → Prop} {xs : List Int} {u v : Value} (h : Dat W F (.l c3) xs u) (h' : Dat W G (.l c3) xs v) :
    Calls Tryz.prog 8 #[u, v] W fun e W' => e = .returned (.bool true) ∧ Below W.heap.size W W' := by
  have h1 : Rep W (fun b => F b ∨ G b) (.l c3) xs u := Rep.mono (fun b h => .inl h) (fun _ _ => rfl) _ _ _ h.rep
  have h2 : Rep W (fun b => F b ∨ G b) (.l c3) xs v := Rep.mono (fun b h => .inr h) (fun _ _ => rfl) _ _ _ h'.rep
  refine (s8.2 (xs, xs) (eqb xs xs) rfl W (fun b => F b ∨ G b) [u, v] (fun b hb => hb.elim (h.lt b) (h'.lt b)) (fun h => by cases h) ⟨_, _, rfl, ⟨_, _, rfl, h1, rfl⟩, ⟨_, [], rfl, ⟨_, _, rfl, h2, rfl⟩, rfl⟩⟩).mono ?_
  rintro e W' ⟨v, rfl, hm, hres⟩
  have h1 := res1 (c := .b) hres
  exact ⟨by rw [show v = .bool (eqb xs xs) from h1, eqb_self], Moved.below hm⟩
theorem call9 {W : World} {F G : Nat → Prop} {d : CT.denL cW} {us vs : List Value} (h : DatS W F cW d us) (h' : DatS W G cW d vs) :
    Calls Tryz.prog 9 #[.agg us.toArray, .agg vs.toArray] W fun e W' => e = .returned (.bool true) ∧ Below W.heap.size W W' := by
  have h1 : RepVs W (fun b => F b ∨ G b) cW d us := RepVs_mono (fun b h => .inl h) (fun _ _ => rfl) h.rep
  have h2 : RepVs W (fun b => F b ∨ G b) cW d vs := RepVs_mono (fun b h => .inr h) (fun _ _ => rfl) h'.rep
  refine (s9.2 (d, d) (eqb d d) rfl W (fun b => F b ∨ G b) [.agg us.toArray, .agg vs.toArray] (fun b hb => hb.elim (h.lt b) (h'.lt b)) (fun h => by cases h) ⟨_, _, rfl, ⟨us, rfl, h1⟩, ⟨_, [], rfl, ⟨vs, rfl, h2⟩, rfl⟩⟩).mono ?_
  rintro e W' ⟨v, rfl, hm, hres⟩
  have h1 := res1 (c := .b) hres
  exact ⟨by rw [show v = .bool (eqb d d) from h1, eqb_self], Moved.below hm⟩
theorem mk10 (d' : CT.denL caW) : e10.φ (d', (1 : Int)) = gmk caW (d', (1 : Int)) := by kernel_rfl
theorem call10' {W : World} {F : Nat → Prop} {cs : List CT} (e : cs = caW) {d' : CT.denL cs} {us : List Value} (hr : RepVs W F cs d' us) (hlt : ∀ b, F b → b < W.heap.size) (hL : Loose W F) (hc : ((cntS cs d' : Nat) : Int) ≤ 4611686018427387903) :
    Calls Tryz.prog 10 #[.agg us.toArray, .int .i64 1] W fun e W' => ∃ k : Int, e = .returned (.int .i64 k) ∧ 0 ≤ k ∧ Moved true F W W' := by
  subst e
  obtain ⟨N, hN⟩ : ∃ N, N = cntS caW d' := ⟨_, rfl⟩
  rw [← hN] at hc
  have hg : gmk caW (d', 1) = some (1 + (N : Int)) := by rw [hN]; exact gmk_ok (by decide) (by rw [← hN]; omega)
  have ha : ArgsOk W F e10.ps (d', (1 : Int)) [.agg us.toArray, .int .i64 1] := ⟨_, _, rfl, ⟨us, rfl, hr⟩, ⟨_, [], rfl, ⟨_, _, rfl, ⟨rfl, ok1⟩, rfl⟩, rfl⟩⟩
  refine (s10.2 (d', (1 : Int)) (1 + (N : Int) : Int) ((mk10 d').trans hg) W F [.agg us.toArray, .int .i64 1] hlt (fun _ => hL) ha).mono ?_
  rintro e W' ⟨v, rfl, hm, hres⟩
  have h1 := res1 (c := .i .i64) hres
  exact ⟨1 + (N : Int), by rw [h1.1], by omega, hm⟩
theorem call10 {W : World} {F : Nat → Prop} {d : CT.denL cW} {us : List Value} (h : DatS W F cW d us) (hL : Loose W F) (hs : costL cW d ≤ 1048576) :
    Calls Tryz.prog 10 #[.agg us.toArray, .int .i64 1] W fun e W' => ∃ k : Int, e = .returned (.int .i64 k) ∧ 0 ≤ k ∧ Moved true F W W' := by
  have hcnt : cntS (CT.erL cW) (erDL cW d) ≤ nI cW + 16 * costL cW d := cntS_le 16 cW d (by kernel_rfl)
  have hn : nI cW = 9 := by kernel_rfl
  exact call10' erW (RepVs_er cW d us h.rep) h.lt hL (by omega)
theorem call11 {W : World} {F : Nat → Prop} {xs : List Int} {u : Value} (h : Dat W F (.l c3) xs u) (hL : Loose W F) (hl : xs.length ≤ 8) :
    Calls Tryz.prog 11 #[u, .int .i64 1] W fun e W' => e = .returned (.int .i64 (1 + xs.length)) ∧ Moved true F W W' ∧ Dat W' F (.l c3) (seqI 1 xs.length) u := by
  refine (mark11 (k := 1) h.lt hL h.rep (by decide) (by omega)).mono ?_
  rintro e W' ⟨rfl, hm, hr⟩
  exact ⟨rfl, hm, ⟨hr, fun b hb => Nat.lt_of_lt_of_le (h.lt b hb) hm.2.2.2.1⟩⟩
theorem call12 {W : World} {F : Nat → Prop} {n : Nat} {u : Value} (h : Dat W F (.l c3) (seqI 1 n) u) (hl : n ≤ 8) :
    Calls Tryz.prog 12 #[u, .int .i64 1] W fun e W' => e = .returned (.int .i64 (1 + n)) ∧ Below W.heap.size W W' := by
  have hp : pheld (seqI 1 n, 1) = some (1 + (n : Int)) := by
    unfold pheld
    have h1 : (decide (0 ≤ (seqI 1 n, (1 : Int)).2) && decide ((seqI 1 n, (1 : Int)).2 + (((seqI 1 n, (1 : Int)).1.length : Nat) : Int) ≤ 4611686018427387904)) = true := by
      rw [decide_eq_true (show (0 : Int) ≤ 1 by decide), decide_eq_true (show (1 : Int) + ((seqI 1 n).length : Nat) ≤ 4611686018427387904 by rw [seqI_length]; omega)]
      rfl
    rw [h1, cond_true, held_seqI]
  refine (s12.2 ((seqI 1 n, (1 : Int)) : List Int × Int) ((1 + (n : Int)) : Int) hp W F [u, .int .i64 1] h.lt (fun h => by cases h) ⟨_, _, rfl, ⟨_, _, rfl, h.rep, rfl⟩, ⟨_, [], rfl, ⟨_, _, rfl, ⟨rfl, ok1⟩, rfl⟩, rfl⟩⟩).mono ?_
  rintro e W' ⟨v, rfl, hm, hres⟩
  have h1 := res1 (c := .i .i64) hres
  exact ⟨by rw [h1.1], Moved.below hm⟩
theorem ansW_len (d : CT.denL cW) : (ansW d).length ≤ 8 := by
  unfold ansW
  generalize cutH (d.1, d.2.1) d.2.2.2.2.2.2.2.2.2.2.2.2.1 = g
  obtain ⟨s, es⟩ := g
  by_cases hg : valG (s, es) = true ∧ T69 (s, es) 0 = true
  · obtain ⟨fuel, fin, h1, h2, h3⟩ := search hg.1 hg.2
    rw [← h3, List.length_mergeSort]
    exact h2
  · have hbad : valG (s, es) = false ∨ T69 (s, es) 0 = false := by
      cases h1 : valG (s, es) <;> cases h2 : T69 (s, es) 0 <;> simp_all
    have hrn : rnS (s, es) 0 = [] := by
      unfold rnS
      rcases hbad with h | h
      · rw [h]; rfl
      · rw [show inB 0 0 (IntKind.wrap .i64 ((s, es).1 - 1)) = false from h]
        cases valG (s, es) <;> rfl
    rw [hrn]; simp
end Go.Proofs.Ai
