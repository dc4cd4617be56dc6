/- A part of the proof that the law FnExactHonestReach returns true: contracts of the functions that it calls, or the plain facts behind them; each holds for every input that its premises name. -/
import Derived.Test.YtjeedadfhoiedaaGreatB14
set_option linter.unusedVariables false
set_option linter.unusedSimpArgs false
set_option maxRecDepth 4000
namespace Go.Proofs.Ai
open Go.RowKit

noncomputable section
noncomputable abbrev En (W : World) (F : Nat → Prop) (er : Bool) : Env := ⟨Tryz.prog, W, F, fun _ => False, er⟩
theorem her0 : erOf tab = false := by kernel_rfl
theorem her1 : erOf tabE = true := by kernel_rfl
theorem RepL_keep {W W' : World} {G : Nat → Prop} {cs : List CT} {x : CT.denL cs} {b o : Nat} (h : RepL W G cs x b o) (hG : ∀ q, G q → W'.heap[q]? = W.heap[q]?) (hb : W'.heap[b]? = W.heap[b]?) : RepL W' G cs x b o := RepL.mono (fun _ h => h) hG cs x b o hb h
theorem Rep_keep {W W' : World} {G : Nat → Prop} {c : CT} {x : c.den} {u : Value} (h : Rep W G c x u) (hG : ∀ q, G q → W'.heap[q]? = W.heap[q]?) : Rep W' G c x u := Rep.mono (fun _ h => h) hG c x u h

section
variable {W : World} {F G : Nat → Prop} {er : Bool} {a : Act} {t : Nat} {u v : Value}
abbrev Tells (W : World) (F : Nat → Prop) (er : Bool) (x : AV) (v : Value) : Prop := ConcV W (Imm (En W F er) W [] (fun _ => none)) [] (fun _ => none) x v
theorem tell_q {cs : List CT} {x : CT.denL cs} {g : Nat} (hu : a.tmps.getD t undef = .pointer (some ⟨g, 0, none⟩)) (hv : a.tmps.toList[t]? = some v) (hr : RepL W G cs x g 0)
    (hG : ∀ b, G b → b < W.heap.size ∧ F b ∧ (er = true → ∃ c t, W.heap[b]? = some (.cells c t (0, 0)))) (hg : g < W.heap.size ∧ F g ∧ (er = true → ∃ c t, W.heap[g]? = some (.cells c t (0, 0)))) : Tells W F er (.q false cs x) v := by
  have e := tmp_get a hv
  rw [hu] at e
  unfold Tells ConcV
  exact ⟨g, 0, e.symm, imm0 hg.1 hg.2.1 hg.2.2, RepL.mono (fun b hb => imm0 (hG b hb).1 (hG b hb).2.1 (hG b hb).2.2) (fun _ _ => rfl) _ _ _ _ rfl hr⟩
theorem tell_d {cs : List CT} {xs : List (CT.denL cs)} (hu : a.tmps.getD t undef = u) (hv : a.tmps.toList[t]? = some v) (hr : Rep W G (.l cs) xs u)
    (hG : ∀ b, G b → b < W.heap.size ∧ F b ∧ (er = true → ∃ c t, W.heap[b]? = some (.cells c t (0, 0)))) : Tells W F er (.d false cs xs) v := by
  have e := tmp_get a hv
  rw [hu] at e
  subst e
  unfold Tells ConcV
  exact Rep.mono (fun b hb => imm0 (hG b hb).1 (hG b hb).2.1 (hG b hb).2.2) (fun _ _ => rfl) _ _ _ hr
theorem tell_pn {x : AV} (hu : a.tmps.getD t undef = u) (hv : a.tmps.toList[t]? = some v) (hx : Tells W F er x v) : Tells W F er (.pn u x) v := by
  have e := tmp_get a hv
  unfold Tells ConcV
  exact ⟨e.symm.trans hu, hx⟩
theorem tell_bad : Tells W F er .bad v := by unfold Tells ConcV; trivial
theorem tell_i {k : Int} (hu : a.tmps.getD t undef = .int .i64 k) (hv : a.tmps.toList[t]? = some v) (hk : IntOk .i64 k) : Tells W F er (.v (.int .i64 k)) v := by
  have e := tmp_get a hv
  unfold Tells ConcV
  exact ⟨e.symm.trans hu, hk⟩
end
theorem ans5 {d : CT.denL cW} (hs : smallL cW d = true) : G5 0 d = some (ansW d) := ansP hs
theorem ans7 {d : CT.denL cW} (hs : smallL cW d = true) : G7 0 d = some (ansW d) := ansP hs
theorem eqb_no {α : Type} (a : α) : (!(eqb a a)) = false := by rw [eqb_self]; rfl


/-- a place that holds the world -/
structure At (W : World) (G : Nat → Prop) (d : CT.denL cW) (u : Value) : Prop where
  gt : ∃ g, u = .pointer (some ⟨g, 0, none⟩) ∧ RepL W G cW d g 0 ∧ G g
  lt : ∀ b, G b → b < W.heap.size
theorem At.keep {W W' : World} {G : Nat → Prop} {d : CT.denL cW} {u : Value} (h : At W G d u) (hs : W.heap.size ≤ W'.heap.size) (hb : ∀ b, G b → W'.heap[b]? = W.heap[b]?) : At W' G d u := by
  obtain ⟨⟨g, h1, h2, h3⟩, h4⟩ := h
  exact ⟨⟨g, h1, RepL_keep h2 hb (hb g h3), h3⟩, fun b h => Nat.lt_of_lt_of_le (h4 b h) hs⟩
theorem At.step {W W' : World} {G : Nat → Prop} {d : CT.denL cW} {u : Value} (h : At W G d u) (hb : Below W.heap.size W W') : At W' G d u := h.keep hb.size (fun b hg => hb.block b (h.lt b hg))
theorem At.moved {W W' : World} {F G : Nat → Prop} {d : CT.denL cW} {u : Value} (h : At W G d u) (hm : Moved true F W W') (hd : ∀ b, G b → ¬ F b) : At W' G d u := h.keep hm.2.2.2.1 (fun b hg => moved_block hm (h.lt b hg) (hd b hg))
theorem Loose.step {W W' : World} {G : Nat → Prop} (h : Loose W G) (hb : Below W.heap.size W W') : Loose W' G := fun b hg => by
  obtain ⟨c, t, h1⟩ := h b hg
  exact ⟨c, t, (hb.block b (Array.getElem?_eq_some_iff.1 h1).1).trans h1⟩
theorem Loose.moved {W W' : World} {F G : Nat → Prop} (h : Loose W G) (hm : Moved true F W W') (hd : ∀ b, G b → ¬ F b) : Loose W' G := fun b hg => by
  obtain ⟨c, t, h1⟩ := h b hg
  exact ⟨c, t, (moved_block hm (Array.getElem?_eq_some_iff.1 h1).1 (hd b hg)).trans h1⟩
theorem tell_at {W : World} {F G : Nat → Prop} {er : Bool} {a : Act} {t : Nat} {d : CT.denL cW} {v : Value} (h : At W G d (a.tmps.getD t undef)) (hv : a.tmps.toList[t]? = some v)
    (hF : ∀ b, G b → F b) (hL : er = true → Loose W G) : Tells W F er (.q false cW d) v := by
  obtain ⟨⟨g, h1, h2, h3⟩, h4⟩ := h
  exact tell_q h1 hv h2 (fun b hb => ⟨h4 b hb, hF b hb, fun e => hL e b hb⟩) ⟨h4 g h3, hF g h3, fun e => hL e g h3⟩
theorem tell_ds {W : World} {F G : Nat → Prop} {er : Bool} {a : Act} {t : Nat} {cs : List CT} {xs : List (CT.denL cs)} {v : Value} (h : Dat W G (.l cs) xs (a.tmps.getD t undef)) (hv : a.tmps.toList[t]? = some v)
    (hF : ∀ b, G b → F b) (hL : er = true → Loose W G) : Tells W F er (.d false cs xs) v :=
  tell_d rfl hv h.rep (fun b hb => ⟨h.lt b hb, hF b hb, fun e => hL e b hb⟩)
theorem tell_in {W : World} {F : Nat → Prop} {er : Bool} {a : Act} {t : Nat} {k : Int} {v : Value} (h : a.tmps.getD t undef = .int .i64 k ∧ IntOk .i64 k) (hv : a.tmps.toList[t]? = some v) : Tells W F er (.v (.int .i64 k)) v := tell_i h.1 hv h.2
/-- the memory made between two worlds, none of it fixed -/
def New (W W' : World) (b : Nat) : Prop := W.heap.size ≤ b ∧ b < W'.heap.size ∧ ∃ c t, W'.heap[b]? = some (.cells c t (0, 0))
theorem nil_own {ρ : Rho} {b : Nat} : ¬ Own [] ρ b := by rintro ⟨k, ab, c, hk, _⟩; simp [hget] at hk
theorem At.of {E : Env} {W : World} {h : Heap} {ρ : Rho} {f : Bool} {d : CT.denL cW} {u : Value} {G : Nat → Prop} {g : Nat} (h1 : u = .pointer (some ⟨g, 0, none⟩)) (hg : G g) (hr : RepL W (Imm E W h ρ f) cW d g 0)
    (hG : ∀ b, Imm E W h ρ f b → G b) (hlt : ∀ b, G b → b < W.heap.size) : At W G d u := ⟨⟨g, h1, RepL.mono hG (fun _ _ => rfl) _ _ _ _ rfl hr, hg⟩, hlt⟩
theorem Dat.of {E : Env} {W : World} {h : Heap} {ρ : Rho} {f : Bool} {c : CT} {x : c.den} {u : Value} {G : Nat → Prop} (hr : Rep W (Imm E W h ρ f) c x u)
    (hG : ∀ b, Imm E W h ρ f b → G b) (hlt : ∀ b, G b → b < W.heap.size) : Dat W G c x u := ⟨Rep.mono hG (fun _ _ => rfl) _ _ _ hr, hlt⟩
theorem new_of {P : Program} {W0 W : World} {F : Nat → Prop} {er : Bool} {h : Heap} {ρ : Rho} {b : Nat} (hi : Imm ⟨P, W0, F, fun _ => False, er⟩ W h ρ true b) : New W0 W b := ⟨hi.2.2.1 rfl, hi.1, hi.2.2.2.2 (.inr rfl)⟩

theorem ph1 {w : World} {d : CT.denL cW} {us : List Value} {Q : Exit → Act → World → Prop} {a0 : Act} (hA : DatS w (fun b => b < w.heap.size) cW d us) (hQ : ∀ c a w, ¬ Q (.panic c) a w)
    (hend : ∀ (a : Act) (W : World), a.defers = [] → a.tmps.getD 2 undef = .bool true → Below w.heap.size w W → Q .ret a W)
    (h0 : a0.defers = []) (hn : a0.tmps.toList.length = 69) (hu : a0.tmps.toList[0]? = some (.agg us.toArray))
    (hk : ∀ (a : Act) (W : World), a.defers = [] → a.tmps.toList.length = 69 → Below w.heap.size w W → costL cW d ≤ 1048576 → smallL cW d = true → At W (fun b => b < W.heap.size) d (a.tmps.getD 1 undef) →
      Dat W (fun b => b < W.heap.size) (.l c3) (ansW d) (a.tmps.getD 4 undef) → R3_5.wp Tryz.prog Q a W) : R3_0.wp Tryz.prog Q a0 w := by
  have hc : Conc (En w (fun b => b < w.heap.size) false) ⟨told 69 [(0, .g (cellsAV false cW d))], []⟩ a0 w (fun _ => none) := by
    refine Conc.anew h0 (told_ok hn _ (fun p hp u hu2 => ?_))
    simp only [List.mem_cons, List.not_mem_nil, or_false] at hp
    subst hp
    cases hu.symm.trans hu2
    unfold ConcV
    have hv : RepVs w (Imm (En w (fun b => b < w.heap.size) false) w [] (fun _ => none) false) cW d us := RepVs_mono (fun b hb => imm0 (P := Tryz.prog) (W := w) (F := fun b => b < w.heap.size) (er := false) (b := b) hb hb (fun h => by cases h)) (fun _ _ => rfl) hA.rep
    exact ⟨us, rfl, RepVs_cells hv⟩
  rw [sp3_0]
  refine piece tab_ok her0 hft3 mixed (by kernel_rfl) (fun h => by cases h) hQ hc (q3_0 d) ?_
  intro a W ρ hc
  rw [sp3_1]
  refine piece tab_ok her0 hft3 mixed (by kernel_rfl) (fun h => by cases h) hQ hc (q3_1 d) ?_
  intro a W ρ hc
  rw [sp3_2]
  refine piece tab_ok her0 hft3 mixed (by kernel_rfl) (fun h => by cases h) hQ hc ((q3_2 d).trans (bindS (gsz_ok (by decide) (by decide)) rfl)) ?_
  intro a W ρ hc
  rw [sp3_3]
  by_cases hneg : szR (costL cW d) 1048576 < 0
  · refine wp_seq (last tab_ok her0 hft3 mixed (by kernel_rfl) (fun h => by cases h) (fun c a w => hQ c a w) hc ((q3_3r d _).trans (bif_true (decide_eq_true hneg) rfl)) ?_)
    intro a W ρ hc
    exact hend a W hc.dfr (valued hc (t := 2) rfl) (hc.below rfl (fun _ h => h))
  have hcost : costL cW d ≤ 1048576 := by
    have := szR_in (c := costL cW d) (l := 1048576) (by decide) hneg
    omega
  have hsm : smallL cW d = true := smallL_of cW d hcost (by kernel_rfl) (by kernel_rfl)
  refine piece tab_ok her0 hft3 mixed (by kernel_rfl) (fun h => by cases h) hQ hc ((q3_3 d _).trans (bif_false (decide_eq_false hneg) rfl)) ?_
  intro a W ρ hc
  rw [sp3_4]
  refine piece tab_ok her0 hft3 mixed (by kernel_rfl) (fun h => by cases h) hQ hc ((q3_4 d _).trans (bindS (gto_ok hsm) (bindS (ans5 hsm) rfl))) ?_
  intro a W ρ hc
  refine hk a W hc.dfr (hc.len.trans rfl) (hc.below rfl (fun _ h => h)) hcost hsm ?_ (Dat.of (datad hc (t := 4) rfl) (fun b hb => hb.1) (fun b hb => hb))
  obtain ⟨g, T, cur, g1, g2, g3, g4⟩ := hc.boxed (t := 1) (k := 32) (cs := cW) rfl rfl rfl
  exact At.of g1 (Array.getElem?_eq_some_iff.1 g3).1 g4 (fun b hb => hb.1) (fun b hb => hb)

theorem ph2 {w : World} {d : CT.denL cW} {Q : Exit → Act → World → Prop} {a0 : Act} (hsm : smallL cW d = true) (hQ : ∀ c a w, ¬ Q (.panic c) a w) (h0 : a0.defers = []) (hn : a0.tmps.toList.length = 69)
    (h1 : At w (fun b => b < w.heap.size) d (a0.tmps.getD 1 undef))
    (hk : ∀ (a : Act) (W : World), a.defers = [] → a.tmps.toList.length = 69 → Below w.heap.size w W → a.tmps.getD 1 undef = a0.tmps.getD 1 undef → a.tmps.getD 4 undef = a0.tmps.getD 4 undef → At W (New w W) d (a.tmps.getD 5 undef) → R3_6.wp Tryz.prog Q a W) :
    R3_5.wp Tryz.prog Q a0 w := by
  have hc : Conc (En w (fun b => b < w.heap.size) false) ⟨told 69 [(1, .pn (a0.tmps.getD 1 undef) (.q false cW d)), (4, .pn (a0.tmps.getD 4 undef) .bad)], []⟩ a0 w (fun _ => none) := by
    refine Conc.anew h0 (told_ok hn _ (fun p hp u hu => ?_))
    simp only [List.mem_cons, List.not_mem_nil, or_false] at hp
    rcases hp with rfl | rfl
    · exact tell_pn rfl hu (tell_at h1 hu (fun b h => h) (fun h => by cases h))
    · exact tell_pn rfl hu tell_bad
  rw [sp3_5]
  refine piece tab_ok her0 hft3 mixed (by kernel_rfl) (fun h => by cases h) hQ hc ((q3_5 d _ _).trans (bindS (gto_ok hsm) rfl)) ?_
  intro a W ρ hc
  refine hk a W hc.dfr (hc.len.trans rfl) (hc.below rfl (fun _ h => h)) (pinned hc (t := 1) rfl) (pinned hc (t := 4) rfl) ?_
  obtain ⟨g, T, cur, g1, g2, g3, g4⟩ := hc.boxed (t := 5) (k := 160) (cs := cW) rfl rfl rfl
  refine At.of g1 ⟨g2.elim (fun h => h) (fun h => h.elim), (Array.getElem?_eq_some_iff.1 g3).1, cur, T, g3⟩ g4 (fun b hb => new_of hb) (fun b hb => hb.2.1)

theorem ph3 {w : World} {d : CT.denL cW} {Q : Exit → Act → World → Prop} {a0 : Act} {G : Nat → Prop} (hsm : smallL cW d = true) (hQ : ∀ c a w, ¬ Q (.panic c) a w) (h0 : a0.defers = []) (hn : a0.tmps.toList.length = 69)
    (h1 : At w G d (a0.tmps.getD 5 undef))
    (hk : ∀ (a : Act) (W : World), a.defers = [] → a.tmps.toList.length = 69 → Below w.heap.size w W → a.tmps.getD 1 undef = a0.tmps.getD 1 undef → a.tmps.getD 4 undef = a0.tmps.getD 4 undef → a.tmps.getD 5 undef = a0.tmps.getD 5 undef →
      Dat W (New w W) (.l c3) (ansW d) (a.tmps.getD 6 undef) → R3_7.wp Tryz.prog Q a W) :
    R3_6.wp Tryz.prog Q a0 w := by
  have hc : Conc (En w (fun b => b < w.heap.size) false) ⟨told 69 [(1, .pn (a0.tmps.getD 1 undef) .bad), (4, .pn (a0.tmps.getD 4 undef) .bad), (5, .pn (a0.tmps.getD 5 undef) (.q false cW d))], []⟩ a0 w (fun _ => none) := by
    refine Conc.anew h0 (told_ok hn _ (fun p hp u hu => ?_))
    simp only [List.mem_cons, List.not_mem_nil, or_false] at hp
    rcases hp with rfl | rfl | rfl
    · exact tell_pn rfl hu tell_bad
    · exact tell_pn rfl hu tell_bad
    · exact tell_pn rfl hu (tell_at h1 hu h1.lt (fun h => by cases h))
  rw [sp3_6]
  refine piece tab_ok her0 hft3 mixed (by kernel_rfl) (fun h => by cases h) hQ hc ((q3_6 d _ _ _).trans (bindS (ans7 hsm) rfl)) ?_
  intro a W ρ hc
  exact hk a W hc.dfr (hc.len.trans rfl) (hc.below rfl (fun _ h => h)) (pinned hc (t := 1) rfl) (pinned hc (t := 4) rfl) (pinned hc (t := 5) rfl) (Dat.of (datad hc (t := 6) rfl) (fun b hb => new_of hb) (fun b hb => hb.2.1))

theorem ph4 {w : World} {d : CT.denL cW} {A : List Int} {Q : Exit → Act → World → Prop} {a0 : Act} {G1 G4 G5 G6 : Nat → Prop} (hsm : smallL cW d = true) (hQ : ∀ c a w, ¬ Q (.panic c) a w) (h0 : a0.defers = []) (hn : a0.tmps.toList.length = 69)
    (h1 : At w G1 d (a0.tmps.getD 1 undef)) (h4 : Dat w G4 (.l c3) A (a0.tmps.getD 4 undef)) (h5 : At w G5 d (a0.tmps.getD 5 undef)) (h6 : Dat w G6 (.l c3) A (a0.tmps.getD 6 undef))
    (hk : ∀ (a : Act) (W : World), a.defers = [] → a.tmps.toList.length = 69 → Below w.heap.size w W → a.tmps.getD 1 undef = a0.tmps.getD 1 undef → a.tmps.getD 4 undef = a0.tmps.getD 4 undef → a.tmps.getD 5 undef = a0.tmps.getD 5 undef → a.tmps.getD 6 undef = a0.tmps.getD 6 undef →
      a.tmps.getD 7 undef = .int .i64 1 → R3_10.wp Tryz.prog Q a W) :
    R3_7.wp Tryz.prog Q a0 w := by
  have hc : Conc (En w (fun b => b < w.heap.size) false) ⟨told 69 [(1, .pn (a0.tmps.getD 1 undef) (.q false cW d)), (4, .pn (a0.tmps.getD 4 undef) (.d false c3 A)), (5, .pn (a0.tmps.getD 5 undef) (.q false cW d)), (6, .pn (a0.tmps.getD 6 undef) (.d false c3 A))], []⟩ a0 w (fun _ => none) := by
    refine Conc.anew h0 (told_ok hn _ (fun p hp u hu => ?_))
    simp only [List.mem_cons, List.not_mem_nil, or_false] at hp
    rcases hp with rfl | rfl | rfl | rfl
    · exact tell_pn rfl hu (tell_at h1 hu h1.lt (fun h => by cases h))
    · exact tell_pn rfl hu (tell_ds h4 hu h4.lt (fun h => by cases h))
    · exact tell_pn rfl hu (tell_at h5 hu h5.lt (fun h => by cases h))
    · exact tell_pn rfl hu (tell_ds h6 hu h6.lt (fun h => by cases h))
  rw [sp3_7]
  refine piece tab_ok her0 hft3 mixed (by kernel_rfl) (fun h => by cases h) hQ hc ((q3_7 d A _ _ _ _).trans (bif_false (eqb_no A) rfl)) ?_
  intro a W ρ hc
  rw [sp3_8]
  refine piece tab_ok her0 hft3 mixed (by kernel_rfl) (fun h => by cases h) hQ hc ((q3_8 d A _ _ _ _).trans (bindS (gto_ok hsm) (bif_false (eqb_no d) rfl))) ?_
  intro a W ρ hc
  rw [sp3_9]
  refine piece tab_ok her0 hft3 mixed (by kernel_rfl) (fun h => by cases h) hQ hc (q3_9 d A _ _ _ _) ?_
  intro a W ρ hc
  exact hk a W hc.dfr (hc.len.trans rfl) (hc.below rfl (fun _ h => h)) (pinned hc (t := 1) rfl) (pinned hc (t := 4) rfl) (pinned hc (t := 5) rfl) (pinned hc (t := 6) rfl) (valued hc (t := 7) rfl)

theorem phM' {w : World} {cs : List CT} (e : cs = caW) {d' : CT.denL cs} {g : Nat} {Q : Exit → Act → World → Prop} {a0 : Act} {F : Nat → Prop} (hQ : ∀ c a w, ¬ Q (.panic c) a w) (h0 : a0.defers = []) (hn : a0.tmps.toList.length = 69)
    (hp : a0.tmps.getD 5 undef = .pointer (some ⟨g, 0, none⟩)) (hr : RepL w F cs d' g 0) (hg : F g) (hlt : ∀ b, F b → b < w.heap.size) (hL : Loose w F) (hcn : ((cntS cs d' : Nat) : Int) ≤ 4611686018427387903) (h7 : a0.tmps.getD 7 undef = .int .i64 1)
    (hk : ∀ (a : Act) (W : World) (k : Int), a.defers = [] → a.tmps.toList.length = 69 → Moved true F w W → a.tmps.getD 1 undef = a0.tmps.getD 1 undef → a.tmps.getD 4 undef = a0.tmps.getD 4 undef → a.tmps.getD 6 undef = a0.tmps.getD 6 undef →
      a.tmps.getD 7 undef = .int .i64 k → 0 ≤ k → IntOk .i64 k → R3_11.wp Tryz.prog Q a W) :
    R3_10.wp Tryz.prog Q a0 w := by
  subst e
  obtain ⟨N, hN⟩ : ∃ N, N = cntS caW d' := ⟨_, rfl⟩
  rw [← hN] at hcn
  have hgm : gmk caW (d', 1) = some (1 + (N : Int)) := by rw [hN]; exact gmk_ok (by decide) (by rw [← hN]; omega)
  have hc : Conc (En w F true) ⟨told 69 [(1, .pn (a0.tmps.getD 1 undef) .bad), (4, .pn (a0.tmps.getD 4 undef) .bad), (5, .q false caW d'), (6, .pn (a0.tmps.getD 6 undef) .bad), (7, .v (.int .i64 1))], []⟩ a0 w (fun _ => none) := by
    refine Conc.anew h0 (told_ok hn _ (fun p hp u hu => ?_))
    simp only [List.mem_cons, List.not_mem_nil, or_false] at hp
    rcases hp with rfl | rfl | rfl | rfl | rfl
    · exact tell_pn rfl hu tell_bad
    · exact tell_pn rfl hu tell_bad
    · exact tell_q ‹_› hu hr (fun b hb => ⟨hlt b hb, hb, fun _ => hL b hb⟩) ⟨hlt g hg, hg, fun _ => hL g hg⟩
    · exact tell_pn rfl hu tell_bad
    · exact tell_in ⟨h7, ok1⟩ hu
  rw [sp3_10]
  refine piece tabE_ok her1 hftm3 mixed (by kernel_rfl) (fun _ => by kernel_rfl) hQ hc ((q3_10 d' _ _ _).trans (bindS hgm rfl)) ?_
  intro a W ρ hc
  exact hk a W _ hc.dfr (hc.len.trans rfl) (hc.movedF (fun _ h => h)) (pinned hc (t := 1) rfl) (pinned hc (t := 4) rfl) (pinned hc (t := 6) rfl) (valued hc (t := 7) rfl) (by omega) (intOk_small (by omega) (by omega))

theorem phM {w : World} {d : CT.denL cW} {Q : Exit → Act → World → Prop} {a0 : Act} {F : Nat → Prop} (hs : costL cW d ≤ 1048576) (hQ : ∀ c a w, ¬ Q (.panic c) a w) (h0 : a0.defers = []) (hn : a0.tmps.toList.length = 69)
    (h5 : At w F d (a0.tmps.getD 5 undef)) (hL : Loose w F) (h7 : a0.tmps.getD 7 undef = .int .i64 1)
    (hk : ∀ (a : Act) (W : World) (k : Int), a.defers = [] → a.tmps.toList.length = 69 → Moved true F w W → a.tmps.getD 1 undef = a0.tmps.getD 1 undef → a.tmps.getD 4 undef = a0.tmps.getD 4 undef → a.tmps.getD 6 undef = a0.tmps.getD 6 undef →
      a.tmps.getD 7 undef = .int .i64 k → 0 ≤ k → IntOk .i64 k → R3_11.wp Tryz.prog Q a W) :
    R3_10.wp Tryz.prog Q a0 w := by
  obtain ⟨⟨g, h1, h2, h3⟩, h4⟩ := h5
  have hcnt : cntS (CT.erL cW) (erDL cW d) ≤ nI cW + 16 * costL cW d := cntS_le 16 cW d (by kernel_rfl)
  have hn' : nI cW = 9 := by kernel_rfl
  exact phM' erW hQ h0 hn h1 (RepL_er cW d g 0 h2) h3 h4 hL (by omega) h7 hk

theorem ph5 {w : World} {A : List Int} {k : Int} {Q : Exit → Act → World → Prop} {a0 : Act} {G4 G6 : Nat → Prop} (hQ : ∀ c a w, ¬ Q (.panic c) a w) (h0 : a0.defers = []) (hn : a0.tmps.toList.length = 69)
    (h4 : Dat w G4 (.l c3) A (a0.tmps.getD 4 undef)) (h6 : Dat w G6 (.l c3) A (a0.tmps.getD 6 undef)) (h7 : a0.tmps.getD 7 undef = .int .i64 k) (hk0 : 0 ≤ k) (hki : IntOk .i64 k)
    (hk : ∀ (a : Act) (W : World), a.defers = [] → a.tmps.toList.length = 69 → Below w.heap.size w W → a.tmps.getD 1 undef = a0.tmps.getD 1 undef → a.tmps.getD 4 undef = a0.tmps.getD 4 undef → a.tmps.getD 6 undef = a0.tmps.getD 6 undef →
      a.tmps.getD 8 undef = .int .i64 1 → R3_13.wp Tryz.prog Q a W) :
    R3_11.wp Tryz.prog Q a0 w := by
  have hc : Conc (En w (fun b => b < w.heap.size) false) ⟨told 69 [(1, .pn (a0.tmps.getD 1 undef) .bad), (4, .pn (a0.tmps.getD 4 undef) (.d false c3 A)), (6, .pn (a0.tmps.getD 6 undef) (.d false c3 A)), (7, .v (.int .i64 k))], []⟩ a0 w (fun _ => none) := by
    refine Conc.anew h0 (told_ok hn _ (fun p hp u hu => ?_))
    simp only [List.mem_cons, List.not_mem_nil, or_false] at hp
    rcases hp with rfl | rfl | rfl | rfl
    · exact tell_pn rfl hu tell_bad
    · exact tell_pn rfl hu (tell_ds h4 hu h4.lt (fun h => by cases h))
    · exact tell_pn rfl hu (tell_ds h6 hu h6.lt (fun h => by cases h))
    · exact tell_in ⟨h7, hki⟩ hu
  rw [sp3_11]
  refine piece tab_ok her0 hft3 mixed (by kernel_rfl) (fun h => by cases h) hQ hc ((q3_11 A _ _ _ k).trans (bif_false (decide_eq_false (by omega)) (bif_false (eqb_no A) rfl))) ?_
  intro a W ρ hc
  rw [sp3_12]
  refine piece tab_ok her0 hft3 mixed (by kernel_rfl) (fun h => by cases h) hQ hc (q3_12 A _ _ _ k) ?_
  intro a W ρ hc
  exact hk a W hc.dfr (hc.len.trans rfl) (hc.below rfl (fun _ h => h)) (pinned hc (t := 1) rfl) (pinned hc (t := 4) rfl) (pinned hc (t := 6) rfl) (valued hc (t := 8) rfl)

theorem ph6 {w : World} {d : CT.denL cW} {A2 : List Int} {m : Int} {Q : Exit → Act → World → Prop} {a0 : Act} {G1 G4 G6 : Nat → Prop} (hsm : smallL cW d = true) (hQ : ∀ c a w, ¬ Q (.panic c) a w) (h0 : a0.defers = []) (hn : a0.tmps.toList.length = 69)
    (h1 : At w G1 d (a0.tmps.getD 1 undef)) (h4 : Dat w G4 (.l c3) (ansW d) (a0.tmps.getD 4 undef)) (h6 : Dat w G6 (.l c3) A2 (a0.tmps.getD 6 undef)) (h8 : a0.tmps.getD 8 undef = .int .i64 m) (hm0 : 0 ≤ m) (hmi : IntOk .i64 m) (hp : pheld (A2, 1) = some m)
    (hk : ∀ (a : Act) (W : World), a.defers = [] → a.tmps.getD 2 undef = .bool true → Below w.heap.size w W → Q .ret a W) :
    R3_14.wp Tryz.prog Q a0 w := by
  have hc : Conc (En w (fun b => b < w.heap.size) false) ⟨told 69 [(1, .q false cW d), (4, .d false c3 (ansW d)), (6, .d false c3 A2), (8, .v (.int .i64 m))], []⟩ a0 w (fun _ => none) := by
    refine Conc.anew h0 (told_ok hn _ (fun p hp u hu => ?_))
    simp only [List.mem_cons, List.not_mem_nil, or_false] at hp
    rcases hp with rfl | rfl | rfl | rfl
    · exact tell_at h1 hu h1.lt (fun h => by cases h)
    · exact tell_ds h4 hu h4.lt (fun h => by cases h)
    · exact tell_ds h6 hu h6.lt (fun h => by cases h)
    · exact tell_in ⟨h8, hmi⟩ hu
  have hne : (m != m) = false := by simp
  have hlt : decide (m < 0) = false := decide_eq_false (by omega)
  generalize hA : ansW d = A at hc h4
  have a7 : G7 0 d = some A := by rw [← hA]; exact ans7 hsm
  rw [sp3_14]
  refine piece tab_ok her0 hft3 mixed (by kernel_rfl) (fun h => by cases h) hQ hc (q3_14 d A A2 m) ?_
  intro a W ρ hc
  rw [sp3_15]
  refine piece tab_ok her0 hft3 mixed (by kernel_rfl) (fun h => by cases h) hQ hc ((q3_15 d A A2 m).trans (bindS hp rfl)) ?_
  intro a W ρ hc
  rw [sp3_16]
  refine piece tab_ok her0 hft3 mixed (by kernel_rfl) (fun h => by cases h) hQ hc ((q3_16 d A A2 m).trans (bif_false hlt rfl)) ?_
  intro a W ρ hc
  rw [sp3_17]
  refine piece tab_ok her0 hft3 mixed (by kernel_rfl) (fun h => by cases h) hQ hc ((q3_17 d A A2 m).trans (bif_false hne rfl)) ?_
  intro a W ρ hc
  rw [sp3_18]
  refine piece tab_ok her0 hft3 mixed (by kernel_rfl) (fun h => by cases h) hQ hc ((q3_18 d A A2 m).trans (bindS (gto_ok hsm) (bindS a7 rfl))) ?_
  intro a W ρ hc
  rw [sp3_19]
  refine piece tab_ok her0 hft3 mixed (by kernel_rfl) (fun h => by cases h) hQ hc ((q3_19 d A A2 m).trans (bif_false (eqb_no A) rfl)) ?_
  intro a W ρ hc
  rw [sp3_20]
  refine piece tab_ok her0 hft3 mixed (by kernel_rfl) (fun h => by cases h) hQ hc (q3_20 d A A2 m) ?_
  intro a W ρ hc
  rw [sp3_21]
  refine piece tab_ok her0 hft3 mixed (by kernel_rfl) (fun h => by cases h) hQ hc ((q3_21 d A A2 m).trans (bindS hp rfl)) ?_
  intro a W ρ hc
  rw [sp3_22]
  refine piece tab_ok her0 hft3 mixed (by kernel_rfl) (fun h => by cases h) hQ hc ((q3_22 d A A2 m).trans (bif_false hlt rfl)) ?_
  intro a W ρ hc
  rw [sp3_23]
  refine piece tab_ok her0 hft3 mixed (by kernel_rfl) (fun h => by cases h) hQ hc ((q3_23 d A A2 m).trans (bif_false hne rfl)) ?_
  intro a W ρ hc
  refine last tab_ok her0 hft3 mixed (by kernel_rfl) (fun h => by cases h) hQ hc (q3_24 d A A2 m) ?_
  intro a W ρ hc
  exact hk a W hc.dfr (valued hc (t := 2) rfl) (hc.below rfl (fun _ h => h))

theorem ph13 {w : World} {A : List Int} {Q : Exit → Act → World → Prop} {a0 : Act} {F : Nat → Prop} (h0 : a0.defers = []) (hn : a0.tmps.toList.length = 69)
    (h6 : Dat w F (.l c3) A (a0.tmps.getD 6 undef)) (hL : Loose w F) (hl : A.length ≤ 8) (h8 : a0.tmps.getD 8 undef = .int .i64 1)
    (hk : ∀ (a : Act) (W : World), a.defers = [] → a.tmps.toList.length = 69 → Moved true F w W → a.tmps.getD 1 undef = a0.tmps.getD 1 undef → a.tmps.getD 4 undef = a0.tmps.getD 4 undef → Dat W F (.l c3) (seqI 1 A.length) (a.tmps.getD 6 undef) →
      a.tmps.getD 8 undef = .int .i64 (1 + A.length) → R3_14.wp Tryz.prog Q a W) :
    R3_13.wp Tryz.prog Q a0 w := by
  rw [sp3_13, x3_13]
  refine wp_seq (wp_region_list ?_)
  rw [ops17_eq]
  have hz : ∀ {a : Act} {t s : Nat} {v : Value}, t ≠ s → (a.put (some s) v).tmps.getD t undef = a.tmps.getD t undef := by
    intro a t s v h
    simp only [Act.put, Array.getD_eq_getD_getElem?]
    rw [Array.getElem?_setIfInBounds_ne (fun e => h e.symm)]
  have hs : ∀ {a : Act} {s : Nat} {v : Value}, s < a.tmps.size → (a.put (some s) v).tmps.getD s undef = v := by
    intro a s v h
    simp only [Act.put, Array.getD_eq_getD_getElem?]
    rw [Array.getElem?_setIfInBounds_self_of_lt h]; rfl
  have hz2 : ∀ {a : Act} {s : Nat} {v : Value}, (a.put (some s) v).tmps.size = a.tmps.size := by
    intro a s v; simp [Act.put]
  have hd2 : ∀ {a : Act} {s : Nat} {v : Value}, (a.put (some s) v).defers = a.defers := by
    intro a s v; rfl
  have hn' : a0.tmps.size = 69 := by simpa using hn
  refine wpList_move o17_g0 o17_p0 (wpList_move o17_g1 o17_p1 (wpList_callF o17_g2 o17_p2 s11.1 (R := fun e w' => e = .returned (.int .i64 (1 + A.length)) ∧ Moved true F w w' ∧ Dat w' F (.l c3) (seqI 1 A.length) (a0.tmps.getD 6 undef)) ?_ ?_))
  · rw [o17_d0, o17_d1]
    have e1 : ((#[Go.Operand.tmp 43, Go.Operand.tmp 44] : Array Operand).toList.map (((a0.put (some 43) (a0.eval (.tmp 6))).put (some 44) ((a0.put (some 43) (a0.eval (.tmp 6))).eval (.tmp 8))).eval)).toArray = #[a0.tmps.getD 6 undef, .int .i64 1] := by
      have g1 : a0.eval (.tmp 6) = a0.tmps.getD 6 undef := rfl
      have g2 : (a0.put (some 43) (a0.eval (.tmp 6))).eval (.tmp 8) = .int .i64 1 := (hz (by decide)).trans h8
      rw [g2, g1]
      have g3 : ((a0.put (some 43) (a0.tmps.getD 6 undef)).put (some 44) (.int .i64 1)).eval (.tmp 43) = a0.tmps.getD 6 undef := (hz (by decide)).trans (hs (by omega))
      have g4 : ((a0.put (some 43) (a0.tmps.getD 6 undef)).put (some 44) (.int .i64 1)).eval (.tmp 44) = .int .i64 1 := hs (by rw [hz2]; omega)
      simp only [List.map_cons, List.map_nil, g3, g4]
    rw [e1]
    exact call11 h6 hL hl
  · rintro e w' ⟨rfl, hm, hd⟩
    refine ⟨_, rfl, wpList_assign o17_g3 o17_p3 (wpList_end ?_)⟩
    rw [o17_d0, o17_d1, o17_d2, o17_d3]
    generalize hv : Act.eval _ (.tmp 45) = v
    have hv' : v = .int .i64 (1 + A.length) := by
      rw [← hv]
      exact hs (by rw [hz2, hz2]; omega)
    refine hk _ w' ?_ ?_ hm ?_ ?_ ?_ ?_
    · rw [hd2, hd2, hd2, hd2]; exact h0
    · rw [Array.length_toList, hz2, hz2, hz2, hz2]; exact hn'
    · rw [hz (by decide), hz (by decide), hz (by decide), hz (by decide)]
    · rw [hz (by decide), hz (by decide), hz (by decide), hz (by decide)]
    · rw [hz (by decide), hz (by decide), hz (by decide), hz (by decide)]; exact hd
    · rw [hs (by rw [hz2, hz2, hz2]; omega)]; exact hv'

theorem bel_step {w W W' : World} (h : Below w.heap.size w W) (hb : Below W.heap.size W W') : Below w.heap.size w W' :=
  ⟨hb.os.trans h.os, hb.tape.trans h.tape, hb.output.trans h.output, Nat.le_trans h.size hb.size, fun k hk => (hb.block k (Nat.lt_of_lt_of_le hk h.size)).trans (h.block k hk)⟩
theorem bel_moved {w W W' : World} {F : Nat → Prop} (h : Below w.heap.size w W) (hm : Moved true F W W') (hF : ∀ b, F b → w.heap.size ≤ b) : Below w.heap.size w W' :=
  ⟨hm.1.trans h.os, hm.2.1.trans h.tape, hm.2.2.1.trans h.output, Nat.le_trans h.size hm.2.2.2.1, fun k hk => (moved_block hm (Nat.lt_of_lt_of_le hk h.size) (fun hf => Nat.lt_irrefl _ (Nat.lt_of_lt_of_le hk (hF k hf)))).trans (h.block k hk)⟩
theorem seqI_len (n : Nat) : (seqI 1 n).length = n := seqI_length _ _
theorem pheld_seq {n : Nat} (hl : n ≤ 8) : pheld (seqI 1 n, 1) = some (1 + (n : Int)) := by
  unfold pheld
  have h1 : (decide (0 ≤ (seqI 1 n, (1 : Int)).2) && decide ((seqI 1 n, (1 : Int)).2 + (((seqI 1 n, (1 : Int)).1.length : Nat) : Int) ≤ 4611686018427387904)) = true := by
    rw [decide_eq_true (show (0 : Int) ≤ 1 by decide), decide_eq_true (show (1 : Int) + ((seqI 1 n).length : Nat) ≤ 4611686018427387904 by rw [seqI_length]; omega)]
    rfl
  rw [h1, cond_true, held_seqI]

theorem root3 {w : World} {d : CT.denL cW} {us : List Value} (hA : DatS w (fun b => b < w.heap.size) cW d us) :
    Calls Tryz.prog 3 #[.agg us.toArray] w fun e w' => e = .returned (.bool true) ∧ Below w.heap.size w w' := by
  refine calls_of_wp (c := R3_0) Tryz.func3 (by kernel_rfl) ?_
  generalize hQd : bodyPost Tryz.prog Tryz.f3 (fun e w' => e = .returned (.bool true) ∧ Below w.heap.size w w') = Q
  have hQ : ∀ c a w, ¬ Q (.panic c) a w := by
    subst hQd
    rintro c a w ⟨_, h, _⟩
    cases h
  have hend : ∀ (a : Act) (W : World), a.defers = [] → a.tmps.getD 2 undef = .bool true → Below w.heap.size w W → Q .ret a W := by
    subst hQd
    intro a W h1 h2 h3
    refine ⟨h1, _, run_results Tryz.prog Tryz.f3 a.tmps W [.bool true] ?_, rfl, h3⟩
    have hr : Tryz.f3.results.toList = [.tmp 2] := by kernel_rfl
    rw [hr]
    simp [resVar, h2]
  refine ph1 hA hQ hend rfl ?_ ?_ ?_
  · rw [Tryz.ntmps3]; simp
  · rw [Tryz.ntmps3]; simp
  intro a1 W1 d1 n1 b1 hcost hsm at1 dt4
  refine ph2 hsm hQ d1 n1 at1 ?_
  intro a2 W2 d2 n2 b2 e21 e24 at5
  replace at1 := at1.step b2
  replace dt4 := dt4.step b2
  rw [← e21] at at1
  rw [← e24] at dt4
  have L5 : Loose W2 (New W1 W2) := fun b hb => hb.2.2
  refine ph3 hsm hQ d2 n2 at5 ?_
  intro a3 W3 d3 n3 b3 e31 e34 e35 dt6
  replace at1 := at1.step b3
  replace dt4 := dt4.step b3
  replace at5 := at5.step b3
  replace L5 := Loose.step L5 b3
  have L6 : Loose W3 (New W2 W3) := fun b hb => hb.2.2
  rw [← e31] at at1
  rw [← e34] at dt4
  rw [← e35] at at5
  refine ph4 hsm hQ d3 n3 at1 dt4 at5 dt6 ?_
  intro a4 W4 d4 n4 b4 e41 e44 e45 e46 e47
  replace at1 := at1.step b4
  replace dt4 := dt4.step b4
  replace at5 := at5.step b4
  replace dt6 := dt6.step b4
  replace L5 := Loose.step L5 b4
  replace L6 := Loose.step L6 b4
  rw [← e41] at at1
  rw [← e44] at dt4
  rw [← e45] at at5
  rw [← e46] at dt6
  have bb4 : Below w.heap.size w W4 := bel_step (bel_step (bel_step b1 b2) b3) b4
  have s01 : w.heap.size ≤ W1.heap.size := b1.size
  have s12 : W1.heap.size ≤ W2.heap.size := b2.size
  have dis1 : ∀ b, b < W1.heap.size → ¬ New W1 W2 b := fun b h h2 => Nat.lt_irrefl _ (Nat.lt_of_lt_of_le h h2.1)
  have dis6 : ∀ b, New W2 W3 b → ¬ New W1 W2 b := fun b h h2 => Nat.lt_irrefl _ (Nat.lt_of_lt_of_le h2.2.1 h.1)
  have dis1' : ∀ b, b < W1.heap.size → ¬ New W2 W3 b := fun b h h2 => Nat.lt_irrefl _ (Nat.lt_of_lt_of_le (Nat.lt_of_lt_of_le h s12) h2.1)
  refine phM hcost hQ d4 n4 at5 L5 e47 ?_
  intro a5 W5 k d5 n5 m5 e51 e54 e56 e57 k0 ki
  replace at1 := at1.moved m5 dis1
  replace dt4 := dt4.moved m5 dis1
  replace dt6 := dt6.moved m5 dis6
  replace L6 := Loose.moved L6 m5 dis6
  rw [← e51] at at1
  rw [← e54] at dt4
  rw [← e56] at dt6
  have bb5 : Below w.heap.size w W5 := bel_moved bb4 m5 (fun b hb => Nat.le_trans s01 hb.1)
  refine ph5 hQ d5 n5 dt4 dt6 e57 k0 ki ?_
  intro a6 W6 d6 n6 b6 e61 e64 e66 e68
  replace at1 := at1.step b6
  replace dt4 := dt4.step b6
  replace dt6 := dt6.step b6
  replace L6 := Loose.step L6 b6
  rw [← e61] at at1
  rw [← e64] at dt4
  rw [← e66] at dt6
  have hl := ansW_len d
  refine ph13 d6 n6 dt6 L6 hl e68 ?_
  intro a7 W7 d7 n7 m7 e71 e74 dt6' e78
  replace at1 := at1.moved m7 dis1'
  replace dt4 := dt4.moved m7 dis1'
  rw [← e71] at at1
  rw [← e74] at dt4
  have bb7 : Below w.heap.size w W7 := bel_moved (bel_step bb5 b6) m7 (fun b hb => Nat.le_trans s01 (Nat.le_trans s12 hb.1))
  refine ph6 hsm hQ d7 n7 at1 dt4 dt6' e78 (by omega) (intOk_small (by omega) (by omega)) (pheld_seq hl) ?_
  intro a8 W8 d8 e82 b8
  exact hend a8 W8 d8 e82 (bel_step bb7 b8)
end
end Go.Proofs.Ai
