/- A general part of the proof: the walker by abstract values and its soundness, for every program; no condition. -/
import Derived.Test.YtjeedadfhoiedaaGreatA1
set_option linter.unusedVariables false
set_option linter.constructorNameAsVariable false
namespace Go.Proofs.Ai
open Go.RowKit

section
variable {E : Env} {P : Program} {st : St} {a : Act} {w w' : World} {h h' : Heap} {ρ ρ' : Rho} {I : Bool → Nat → Prop}

/-! ### 10. An own slice is only read from now on -/
theorem Conc.freeze (hc : Conc E st a w ρ) (k : Nat) : Conc E (st.freeze k) a w (upd ρ k none) := by
  obtain ⟨H, hH⟩ : ∃ H, H = hdel (hren (fun n => !(Nat.beq n k)) (fun _ => frozenAV st.heap k) st.heap) k := ⟨_, rfl⟩
  have hfz : st.freeze k = ⟨AV.renL (fun n => !(Nat.beq n k)) (fun _ => frozenAV st.heap k) st.tmps, H⟩ := by rw [hH]; rfl
  rw [hfz]
  have hget' : ∀ n, hget H n = if n = k then none else (hget st.heap n).map (AB.ren (fun n => !(Nat.beq n k)) (fun _ => frozenAV st.heap k)) := by
    intro n; rw [hH, hget_hdel, hget_hren]
  clear hH hfz
  have hown : ∀ b, Own H (upd ρ k none) b → Own st.heap ρ b := by
    rintro b ⟨n, x, c, hn, hr⟩
    rw [hget'] at hn
    by_cases e : n = k
    · rw [if_pos e] at hn; cases hn
    · rw [if_neg e] at hn
      rw [upd_other e] at hr
      cases hx : hget st.heap n with
      | none => rw [hx] at hn; cases hn
      | some y => exact ⟨n, y, c, hx, hr⟩
  have hI := Imm.step (E := E) (w := w) (w' := w) (h := st.heap) (h' := H) (ρ := ρ) (ρ' := upd ρ k none) (Nat.le_refl _) (fun b _ ho => hown b ho) (fun _ _ _ => rfl)
  have hk : ∀ n ab, (!(Nat.beq n k)) = true → hget st.heap n = some ab → upd ρ k none n = ρ n ∧ ∃ ab', hget H n = some ab' ∧ SameShape ab ab' := by
    intro n ab hn hx
    have hne := beq_ne.1 hn
    exact ⟨upd_other hne, _, by rw [hget', if_neg hne, hx]; rfl, AB.ren_shape _ _ _⟩
  have hs : ∀ n u, (!(Nat.beq n k)) = false → ConcV w (Imm E w st.heap ρ) st.heap ρ (.o n) u → ConcV w (Imm E w H (upd ρ k none)) H (upd ρ k none) (frozenAV st.heap k) u := by
    intro n u hn hu
    have e := beq_eq'.1 hn
    subst e
    unfold ConcV at hu
    obtain ⟨fr, e, cs, xs, hg, rfl⟩ := hu
    unfold frozenAV
    rw [hg]
    unfold ConcV
    rw [Rep_l]
    rcases hc.blk n _ hg with ⟨e1, e2⟩ | ⟨g, cap, cur, e1, e2, hfr, e3, e4, e5, e6, e7⟩
    · rw [e1]
      subst e2
      exact ⟨none, 0, rfl, Nat.le_refl _, Nat.zero_le _, fun _ => rfl, fun hne => (hne rfl).elim⟩
    · rw [e1]
      refine ⟨some ⟨g, 0, none⟩, cap, rfl, e4, e5, (fun hn => by cases hn), fun _ => ⟨g, 0, rfl, ⟨(Array.getElem?_eq_some_iff.1 e3).1, ?_, hfr, fun _ => .inr e2, fun _ => ⟨_, _, e3⟩⟩, fun i y hi => ?_⟩⟩
      · rintro ⟨m, x, c, hm, hr⟩
        rw [hget'] at hm
        by_cases e : m = n
        · rw [if_pos e] at hm; cases hm
        · rw [if_neg e] at hm
          rw [upd_other e] at hr
          cases hx : hget st.heap m with
          | none => rw [hx] at hm; cases hm
          | some y => exact e (hc.inj m n y _ g c cap hx hg hr e1)
      · rw [Nat.zero_add]
        exact RepL.mono (fun b hb => (hI fr b hb).1) (fun b hb => (hI fr b hb).2) _ _ _ _ rfl (e7 i y hi)
  refine hc.trans (fun n => !(Nat.beq n k)) (fun _ => frozenAV st.heap k) H (upd ρ k none) w (Nat.le_refl _) (fun b _ ho => hown b ho) (fun _ _ _ => rfl) hk hs ?_ ?_ rfl rfl rfl
  · intro n x hn
    have hn' := hn
    rw [hget'] at hn
    by_cases e : n = k
    · rw [if_pos e] at hn; cases hn
    · rw [if_neg e] at hn
      cases hx : hget st.heap n with
      | none => rw [hx] at hn; cases hn
      | some y =>
        rw [hx] at hn
        simp only [Option.map_some, Option.some.injEq] at hn
        subst hn
        exact BlockOk.step hI hk hs (hc.blk n y hx) (upd_other e) (fun _ _ _ => rfl)
  · intro n n' x x' g c c' hn hn' hr hr'
    rw [hget'] at hn hn'
    by_cases e : n = k
    · rw [if_pos e] at hn; cases hn
    · by_cases e' : n' = k
      · rw [if_pos e'] at hn'; cases hn'
      · rw [if_neg e] at hn
        rw [if_neg e'] at hn'
        rw [upd_other e] at hr
        rw [upd_other e'] at hr'
        cases hx : hget st.heap n with
        | none => rw [hx] at hn; cases hn
        | some y =>
          cases hx' : hget st.heap n' with
          | none => rw [hx'] at hn'; cases hn'
          | some y' => exact hc.inj n n' y y' g c c' hx hx' hr hr'

theorem freeze_sl (st : St) (k : Nat) {n : Nat} (hn : n ≠ k) {fr : Bool} {e : TypeId} {cs : List CT} {xs : List (CT.denL cs)} (hg : hget st.heap n = some (.sl fr e cs xs)) : hget (st.freeze k).heap n = some (.sl fr e cs xs) := by
  show hget (hdel (hren _ _ st.heap) k) n = _
  rw [hget_hdel, if_neg hn, hget_hren, hg]; rfl

theorem Conc.freezeAll : ∀ (ks : List Nat) {st : St} {ρ : Rho}, Conc E st a w ρ → ∃ ρ', Conc E (st.freezeAll ks) a w ρ' ∧ (∀ n, n ∉ ks → ρ' n = ρ n) ∧
    (∀ n, n ∉ ks → ∀ fr e cs xs, hget st.heap n = some (.sl fr e cs xs) → hget (st.freezeAll ks).heap n = some (.sl fr e cs xs))
  | [], st, ρ, hc => ⟨ρ, hc, fun _ _ => rfl, fun _ _ _ _ _ _ hg => hg⟩
  | k :: ks, st, ρ, hc => by
    obtain ⟨ρ', h1, h2, h3⟩ := Conc.freezeAll ks (hc.freeze k)
    refine ⟨ρ', h1, fun n hn => ?_, fun n hn fr e cs xs hg => ?_⟩
    · simp only [List.mem_cons, not_or] at hn
      rw [h2 n hn.2, upd_other hn.1]
    · simp only [List.mem_cons, not_or] at hn
      exact h3 n hn.2 fr e cs xs (freeze_sl st k hn.1 hg)

/-! ### 11. Deep data out of abstract values -/
/-- values that stand for typed cells -/
def RepVs (w : World) (F : Nat → Prop) : (cs : List CT) → CT.denL cs → List Value → Prop
  | [], _, us => us = []
  | c :: cs, x, us => ∃ u r, us = u :: r ∧ Rep w F c (hd x) u ∧ RepVs w F cs (tl x) r
theorem RepVs_length {F : Nat → Prop} : ∀ {cs : List CT} {x : CT.denL cs} {us : List Value}, RepVs w F cs x us → us.length = cs.length
  | [], _, us, hh => by unfold RepVs at hh; subst hh; rfl
  | c :: cs, x, us, hh => by
    unfold RepVs at hh
    obtain ⟨u, r, rfl, _, h2⟩ := hh
    simp [RepVs_length h2]
theorem RepVs_L {F : Nat → Prop} : ∀ {cs : List CT} {x : CT.denL cs} {us : List Value} {b off : Nat}, RepVs w F cs x us → (∀ j v, us[j]? = some v → w'.cell? ⟨b, off + j, none⟩ = some v) → (∀ b, F b → w'.heap[b]? = w.heap[b]?) → RepL w' F cs x b off
  | [], _, us, b, off, _, _, _ => by unfold RepL; trivial
  | c :: cs, x, us, b, off, hh, hcell, hF => by
    unfold RepVs at hh
    obtain ⟨u, r, rfl, h1, h2⟩ := hh
    rw [RepL_cons]
    refine ⟨⟨u, by simpa using hcell 0 u (by simp), Rep.mono (fun _ h => h) hF _ _ _ h1⟩, RepVs_L h2 (fun j v hj => ?_) hF⟩
    have := hcell (j + 1) v (by simpa using hj)
    rwa [show off + (j + 1) = off + 1 + j from by omega] at this
theorem RepVs_mono {F F' : Nat → Prop} (h1 : ∀ b, F b → F' b) (h2 : ∀ b, F b → w'.heap[b]? = w.heap[b]?) : ∀ {cs : List CT} {x : CT.denL cs} {us : List Value}, RepVs w F cs x us → RepVs w' F' cs x us
  | [], _, us, hh => by unfold RepVs at hh ⊢; exact hh
  | c :: cs, x, us, hh => by
    unfold RepVs at hh ⊢
    obtain ⟨u, r, e, g1, g2⟩ := hh
    exact ⟨u, r, e, Rep.mono h1 h2 _ _ _ g1, RepVs_mono h1 h2 g2⟩

theorem Imm.weaken {b : Nat} {fr : Bool} (f : Bool) (hb : Imm E w h ρ fr b) : Imm E w h ρ (fr && f) b := by
  obtain ⟨h1, h2, h3, h4, h5⟩ := hb
  refine ⟨h1, h2, fun hf => h3 (by cases fr <;> simp_all), fun hf => ?_, fun hh => h5 (hh.imp_right fun hf => by cases fr <;> simp_all)⟩
  cases fr with
  | false => exact h4 rfl
  | true => exact .inr (.inl (h3 rfl))
theorem Imm.weaken' {b : Nat} {fr : Bool} (f : Bool) (hb : Imm E w h ρ fr b) : Imm E w h ρ (f && fr) b := by
  rw [Bool.and_comm]; exact hb.weaken f

theorem RepVs_M {F : Nat → Prop} : ∀ {cs : List CT} {x : CT.denL cs} {us : List Value}, RepVs w F cs x us ↔ RepM w F cs x us
  | [], x, us => by unfold RepVs RepM; exact Iff.rfl
  | [c], x, us => by
    unfold RepVs RepM
    constructor
    · rintro ⟨u, r, rfl, h1, h2⟩
      have : r = [] := by unfold RepVs at h2; exact h2
      subst this
      exact ⟨u, rfl, h1⟩
    · rintro ⟨u, rfl, h1⟩
      exact ⟨u, [], rfl, h1, by unfold RepVs; rfl⟩
  | c :: d :: cs, x, us => by
    unfold RepVs RepM
    constructor
    · rintro ⟨u, r, rfl, h1, h2⟩
      exact ⟨u, r, rfl, h1, RepVs_M.1 h2⟩
    · rintro ⟨u, r, rfl, h1, h2⟩
      exact ⟨u, r, rfl, h1, RepVs_M.2 h2⟩

theorem toDs_nil {l : List AV} : toDs [] l = nilO l := toDs.eq_1 l
theorem toDs_none {c : CT} {cs : List CT} : toDs (c :: cs) [] = none := by
  cases cs with
  | nil => exact toDs.eq_2 [] c
  | cons d cs => exact toDs.eq_3 [] c d cs
theorem toDs_cons {c : CT} {cs : List CT} {a : AV} {l : List AV} : toDs (c :: cs) (a :: l) = match toD c a, toDs cs l with
    | some (f1, x), some (f2, y) => some (f1 && f2, cons x y)
    | _, _ => none := by
  cases cs with
  | cons d cs =>
    refine (toDs.eq_3 (a :: l) c d cs).trans ?_
    show pairO (toD c a) (toDs (d :: cs) l) = _
    generalize toD c a = z1
    generalize toDs (d :: cs) l = z2
    match z1, z2 with
    | none, none => rfl
    | none, some _ => rfl
    | some _, none => rfl
    | some (f, x), some (g, y) => rfl
  | nil =>
    refine (toDs.eq_2 (a :: l) c).trans ?_
    rw [toDs_nil]
    cases l with
    | cons b l =>
      show none = _
      generalize toD c a = z
      match z with
      | none => rfl
      | some (f, x) => rfl
    | nil =>
      show toD c a = _
      generalize toD c a = z
      match z with
      | none => rfl
      | some (f, x) =>
        show some (f, x) = some (f && true, x)
        rw [Bool.and_true]
theorem toI_ok {k : IntKind} {x : AV} {fr : Bool} {y : Int} {u : Value} (hx : ConcV w I h ρ x u) (ht : toI k x = some (fr, y)) : u = .int k y ∧ IntOk k y := by
  unfold toI at ht
  split at ht
  · split at ht
    · rename_i k' n hk
      subst hk
      simp only [Option.some.injEq, Prod.mk.injEq] at ht
      obtain ⟨_, rfl⟩ := ht
      unfold ConcV at hx
      exact ⟨hx.1, hx.2⟩
    · cases ht
  · cases ht
theorem toA_ok {k : IntKind} {x : AV} {r : Bool × Unit} {u : Value} (hx : ConcV w I h ρ x u) (ht : toA k x = some r) : ∃ n, u = .int k n ∧ IntOk k n := by
  unfold toA at ht
  split at ht
  · split at ht
    · rename_i k' hk
      subst hk
      unfold ConcV at hx
      exact hx
    · cases ht
  · cases ht
theorem toB_ok {x : AV} {fr : Bool} {y : Bool} {u : Value} (hx : ConcV w I h ρ x u) (ht : toB x = some (fr, y)) : u = .bool y := by
  unfold toB at ht
  split at ht
  · simp only [Option.some.injEq, Prod.mk.injEq] at ht
    obtain ⟨_, rfl⟩ := ht
    unfold ConcV at hx
    exact hx.1
  · cases ht
theorem toS_ok {x : AV} {fr : Bool} {y : ByteArray} {u : Value} (hx : ConcV w I h ρ x u) (ht : toS x = some (fr, y)) : u = .string y ∧ y.size ≤ maxLen := by
  unfold toS at ht
  split at ht
  · simp only [Option.some.injEq, Prod.mk.injEq] at ht
    obtain ⟨_, rfl⟩ := ht
    unfold ConcV at hx
    exact ⟨hx.1, hx.2⟩
  · cases ht
theorem toL_ok {cs : List CT} {x : AV} {fr : Bool} {y : List (CT.denL cs)} {u : Value} (hx : ConcV w I h ρ x u) (ht : toL cs x = some (fr, y)) : Rep w (I fr) (.l cs) y u := by
  unfold toL at ht
  split at ht
  · simp only [Option.some.injEq, Prod.mk.injEq] at ht
    obtain ⟨_, rfl⟩ := ht
    unfold ConcV at hx
    subst hx
    rw [Rep_l]
    exact ⟨none, 0, rfl, Nat.le_refl _, Nat.zero_le _, fun _ => rfl, fun hne => (hne rfl).elim⟩
  · split at ht
    · rename_i fr' cs' xs e
      subst e
      simp only [Option.some.injEq, Prod.mk.injEq] at ht
      obtain ⟨rfl, rfl⟩ := ht
      unfold ConcV at hx
      exact hx
    · cases ht
  · cases ht
theorem toP_ok {cs : List CT} {x : AV} {fr : Bool} {y : CT.denL cs} {u : Value} (hx : ConcV w I h ρ x u) (ht : toP cs x = some (fr, y)) : ∃ b off, u = .pointer (some ⟨b, off, none⟩) ∧ I fr b ∧ RepL w (I fr) cs y b off := by
  unfold toP at ht
  split at ht
  · split at ht
    · rename_i fr' cs' xs e
      subst e
      simp only [Option.some.injEq, Prod.mk.injEq] at ht
      obtain ⟨rfl, rfl⟩ := ht
      unfold ConcV at hx
      exact hx
    · cases ht
  · cases ht
theorem capsOf_ok {fn : Nat} {x : AV} {l : List AV} {u : Value} (hx : ConcV w I h ρ x u) (ht : capsOf fn x = some l) : ∃ us : List Value, u = .func (.func fn) #[] us.toArray ∧ ConcVs w I h ρ l us := by
  unfold capsOf at ht
  split at ht
  · split at ht
    · rename_i fn' l' e
      subst e
      simp only [Option.some.injEq] at ht
      subst ht
      unfold ConcV at hx
      exact hx
    · cases ht
  · cases ht

mutual
theorem toD_ok : (c : CT) → (x : AV) → (fr : Bool) → (y : c.den) → (u : Value) → ConcV w (Imm E w h ρ) h ρ x u → toD c x = some (fr, y) → Rep w (Imm E w h ρ fr) c y u
  | .i k, x, fr, y, u, hx, ht => by rw [toD.eq_1] at ht; exact toI_ok hx ht
  | .any k, x, fr, y, u, hx, ht => by rw [toD.eq_2] at ht; exact toA_ok hx ht
  | .one, x, fr, y, u, hx, ht => by rw [toD.eq_3] at ht; cases ht
  | .b, x, fr, y, u, hx, ht => by rw [toD.eq_4] at ht; exact toB_ok hx ht
  | .s, x, fr, y, u, hx, ht => by rw [toD.eq_5] at ht; exact toS_ok hx ht
  | .l cs, x, fr, y, u, hx, ht => by rw [toD.eq_6] at ht; exact toL_ok hx ht
  | .ptr cs, x, fr, y, u, hx, ht => by rw [toD.eq_7] at ht; exact toP_ok hx ht
  | .clo fn cs, x, fr, y, u, hx, ht => by
    rw [toD.eq_8] at ht
    cases hcaps : capsOf fn x with
    | none => rw [hcaps] at ht; cases ht
    | some l =>
      rw [hcaps] at ht
      replace ht : toDs cs l = some (fr, y) := ht
      obtain ⟨us, e, hl⟩ := capsOf_ok hx hcaps
      exact ⟨us, e, RepVs_M.1 (toDs_ok cs l fr y us hl ht)⟩
theorem toDs_ok : (cs : List CT) → (l : List AV) → (fr : Bool) → (y : CT.denL cs) → (us : List Value) → ConcVs w (Imm E w h ρ) h ρ l us → toDs cs l = some (fr, y) → RepVs w (Imm E w h ρ fr) cs y us
  | [], [], fr, y, us, hl, _ => by
    cases us with
    | nil => unfold RepVs; rfl
    | cons u us => unfold ConcVs at hl; exact hl.elim
  | [], _ :: _, _, _, _, _, ht => by rw [toDs_nil] at ht; cases ht
  | _ :: _, [], _, _, _, _, ht => by rw [toDs_none] at ht; cases ht
  | c :: cs, x :: l, fr, y, us, hl, ht => by
    cases us with
    | nil => unfold ConcVs at hl; exact hl.elim
    | cons u us =>
      unfold ConcVs at hl
      rw [toDs_cons] at ht
      cases h1 : toD c x with
      | none => rw [h1] at ht; simp at ht
      | some p =>
        cases h2 : toDs cs l with
        | none => rw [h1, h2] at ht; simp at ht
        | some q =>
          obtain ⟨f1, y1⟩ := p
          obtain ⟨f2, y2⟩ := q
          rw [h1, h2] at ht
          simp only [Option.some.injEq, Prod.mk.injEq] at ht
          obtain ⟨rfl, rfl⟩ := ht
          unfold RepVs
          refine ⟨u, us, rfl, ?_, ?_⟩
          · rw [hd_cons]
            exact Rep.mono (fun b hb => hb.weaken f2) (fun _ _ => rfl) _ _ _ (toD_ok c x f1 y1 u hl.1 h1)
          · rw [tl_cons]
            exact RepVs_mono (fun b hb => hb.weaken' f1) (fun _ _ => rfl) (toDs_ok cs l f2 y2 us hl.2 h2)
end
theorem toD_one {c : CT} {x : AV} {r : Bool × c.den} (ht : toD c x = some r) : x.cell = true ∨ x = .z := by
  cases x with
  | v y => exact .inl rfl
  | any k => exact .inl rfl
  | one => exact .inl rfl
  | z => exact .inr rfl
  | d fr cs xs => exact .inl rfl
  | q fr cs xs => exact .inl rfl
  | o k => exact .inl rfl
  | p k off => exact .inl rfl
  | f fn l => exact .inl rfl
  | e k i j => exfalso; cases c <;> unfold toD at ht <;> cases ht
  | g l => exfalso; cases c <;> unfold toD at ht <;> cases ht
  | t l => exfalso; cases c <;> unfold toD at ht <;> cases ht
  | u => exfalso; cases c <;> unfold toD at ht <;> cases ht
  | pn y a => exfalso; cases c <;> unfold toD at ht <;> cases ht
  | bad => exfalso; cases c <;> unfold toD at ht <;> cases ht
theorem toDs_one : ∀ {cs : List CT} {l : List AV} {r : Bool × CT.denL cs}, toDs cs l = some r → ∀ x ∈ l, x.cell = true ∨ x = .z
  | [], [], _, _ => by simp
  | [], _ :: _, _, ht => by rw [toDs_nil] at ht; cases ht
  | _ :: _, [], _, ht => by rw [toDs_none] at ht; cases ht
  | c :: cs, y :: l, r, ht => by
    rw [toDs_cons] at ht
    cases h1 : toD c y with
    | none => rw [h1] at ht; simp at ht
    | some p =>
      cases h2 : toDs cs l with
      | none => rw [h1, h2] at ht; simp at ht
      | some q =>
        intro x hx
        simp only [List.mem_cons] at hx
        rcases hx with rfl | hx
        · exact toD_one h1
        · exact toDs_one h2 x hx
theorem vals_one : ∀ {l : List AV} {us : List Value}, (∀ x ∈ l, x.cell = true ∨ x = .z) → ConcVs w I h ρ l us → ∀ u ∈ us, u.oneCell' = true
  | [], [], _, _ => by simp
  | x :: l, u :: us, hl, hc => by
    unfold ConcVs at hc
    intro v hv
    simp only [List.mem_cons] at hv
    rcases hv with rfl | hv
    · rcases hl x (by simp) with h1 | rfl
      · exact cell_one h1 hc.1
      · have := hc.1; unfold ConcV at this; subst this; rfl
    · exact vals_one (fun y hy => hl y (by simp [hy])) hc.2 v hv
  | [], _ :: _, _, hc => by unfold ConcVs at hc; exact hc.elim
  | _ :: _, [], _, hc => by unfold ConcVs at hc; exact hc.elim
end
end Go.Proofs.Ai

set_option linter.unusedVariables false
set_option linter.constructorNameAsVariable false
namespace Go.Proofs.Ai
open Go.RowKit

section
variable {E : Env} {P : Program} {st : St} {a : Act} {w w' : World} {h h' : Heap} {ρ ρ' : Rho} {I : Bool → Nat → Prop}

/-! ### 12. An element is written -/
theorem RepL_vs {F : Nat → Prop} : ∀ {cs : List CT} {x : CT.denL cs} {b off : Nat}, RepL w F cs x b off → ∃ us, RepVs w F cs x us ∧ ∀ j v, us[j]? = some v → w.cell? ⟨b, off + j, none⟩ = some v
  | [], x, b, off, _ => ⟨[], by unfold RepVs; rfl, fun j v hj => by simp at hj⟩
  | c :: cs, x, b, off, hr => by
    rw [RepL_cons] at hr
    obtain ⟨⟨u, h1, h2⟩, h3⟩ := hr
    obtain ⟨us, g1, g2⟩ := RepL_vs h3
    refine ⟨u :: us, by unfold RepVs; exact ⟨u, us, rfl, h2, g1⟩, fun j v hj => ?_⟩
    cases j with
    | zero => simp at hj; subst hj; exact h1
    | succ j =>
      have := g2 j v (by simpa using hj)
      rwa [show off + 1 + j = off + (j + 1) from by omega] at this
theorem RepVs_cells {fr : Bool} : ∀ {cs : List CT} {x : CT.denL cs} {us : List Value}, RepVs w (I fr) cs x us → ConcVs w I h ρ (cellsAV fr cs x) us
  | [], x, us, hh => by unfold RepVs at hh; subst hh; unfold cellsAV ConcVs; trivial
  | c :: cs, x, us, hh => by
    unfold RepVs at hh
    obtain ⟨u, r, rfl, h1, h2⟩ := hh
    rw [cellsAV_cons]
    unfold ConcVs
    exact ⟨cellAV_ok _ _ _ h1, RepVs_cells h2⟩

theorem put_get {cur us : List Value} {o n : Nat} (ho : o + us.length ≤ cur.length) : (cur.take o ++ us ++ cur.drop (o + us.length))[n]? = if o ≤ n ∧ n < o + us.length then us[n - o]? else cur[n]? := by
  by_cases h1 : n < o
  · rw [if_neg (by omega), List.append_assoc, List.getElem?_append_left (by simp; omega), List.getElem?_take, if_pos h1]
  · by_cases h2 : n < o + us.length
    · rw [if_pos ⟨by omega, h2⟩, List.append_assoc, List.getElem?_append_right (by simp; omega), List.length_take, Nat.min_eq_left (by omega), List.getElem?_append_left (by omega)]
    · rw [if_neg (by omega), List.getElem?_append_right (by simp; omega), List.getElem?_drop]
      congr 1
      simp only [List.length_append, List.length_take, Nat.min_eq_left (show o ≤ cur.length by omega)]
      omega

theorem mul_add_lt {i j n m : Nat} (hi : i < m) (hj : j < n) : i * n + j < m * n := by
  have : (i + 1) * n ≤ m * n := Nat.mul_le_mul_right n hi
  rw [Nat.add_mul, Nat.one_mul] at this
  omega

theorem storeElem_ok (hc : Conc E st a w ρ) {t : TypeId} {ti : TI} (ht : TIOk E.P t ti) {k i j : Nat} {x : AV} {u p : Value} {st' : St} (hx : ConcV w (Imm E w st.heap ρ) st.heap ρ x u)
    (hp : ConcV w (Imm E w st.heap ρ) st.heap ρ (.e k i j) p) (he : storeElem st ti k i j x = some st') :
    ∃ w', (Instr.storeAt t p u).run E.P w = .ok () w' ∧ Conc E st' a w' ρ := by
  unfold storeElem at he
  cases hti : ti.cells with
  | none => rw [hti] at he; simp at he
  | some q =>
    obtain ⟨agg, ces⟩ := q
    rw [hti] at he
    simp only at he
    split at he
    · rename_i hlen
      unfold ConcV at hp
      obtain ⟨fr, e, cs, xs, g, c, hg, hr, hi, rfl⟩ := hp
      rw [hg] at he
      simp only at he
      split at he
      · rename_i hfit
        cases hd : toDs cs (putAt j x.cells (cellsAV fr cs (xs.getD i (CT.dfltL cs)))) with
        | none => rw [hd] at he; simp at he
        | some r =>
          obtain ⟨fr', y⟩ := r
          rw [hd] at he
          simp only [Option.some.injEq] at he
          subst he
          rcases hc.blk k _ hg with ⟨e1, e2⟩ | ⟨g', cap, cur, e1, e2, hfr, e3, e4, e5, e6, e7⟩
          · rw [hr] at e1; cases e1
          · rw [hr] at e1
            simp only [Option.some.injEq, Prod.mk.injEq] at e1
            obtain ⟨rfl, rfl⟩ := e1
            have hone : ∀ z ∈ x.cells, z.cell = true ∨ z = .z := by
              intro z hz
              refine toDs_one hd z ?_
              unfold putAt
              simp [hz]
            have hshape : (∃ l, x = .g l) ∨ x.cell = true ∨ x = .z := by
              by_cases hxg : ∃ l, x = .g l
              · exact .inl hxg
              · refine .inr (hone x ?_)
                cases x <;> first | (exfalso; exact hxg ⟨_, rfl⟩) | simp [AV.cells]
            have hxc := agg_cells hx hshape
            obtain ⟨old, o1, o2⟩ := RepL_vs (e7 i _ (getD_of_lt (d := CT.dfltL cs) hi))
            have hlold : old.length = cs.length := RepVs_length o1
            have hcold := RepVs_cells (h := st.heap) (ρ := ρ) o1
            have hlc : (cellsAV fr cs (xs.getD i (CT.dfltL cs))).length = old.length := ConcVs_length hcold
            have hlu : x.cells.length = u.cells.toList.length := ConcVs_length hxc
            have hju : j + u.cells.toList.length ≤ cs.length := by rw [← hlu, ← hlold, ← hlc]; exact hfit
            have hnew := toDs_ok _ _ _ _ _ (ConcVs_put (off := j) hxc hcold) hd
            have hcapi : (i + 1) * cs.length ≤ c * cs.length := Nat.mul_le_mul_right _ (by omega)
            have hsz0 : i * cs.length + j + 0 + u.cells.toList.length ≤ cur.size := by rw [e6]; rw [Nat.add_mul, Nat.one_mul] at hcapi; omega
            have hst := run_storeCells_at E.P g (i * cs.length + j) e u.cells.toList 0 cur w e3 hsz0 (vals_one hone hxc)
            simp only [Nat.add_zero] at hst hsz0
            obtain ⟨ii, hi1, hi2, _⟩ := size_ok ht hti
            have hsz : u.cells.size = ii.size := by rw [hi2, hlen, hlu, Array.length_toList]
            refine ⟨_, ?_, hc.write (T := e) (c := c) hg hr e3 (ab' := .sl (fr && fr') e cs (xs.set i y)) (by simp [SameShape]) (cur' := (cur.toList.take (i * cs.length + j) ++ u.cells.toList ++ cur.toList.drop (i * cs.length + j + u.cells.toList.length)).toArray) ?_⟩
            · simp [Instr.storeAt, Instr.sureAddr, storeVar, sizeOf, typeInfo, hi1, hsz, hst]
            intro hI hL hw'
            refine .inr ⟨g, c, _, hr, e2, fun hf => hfr (by cases fr <;> simp_all), hw', by simpa using e4, e5, ?_, ?_⟩
            · simp only [List.size_toArray, List.length_append, List.length_take, List.length_drop, Array.length_toList]
              simp only [Array.length_toList] at hsz0
              omega
            · intro n z hz
              have hcell' : ∀ m, ∀ v, (cur.toList.take (i * cs.length + j) ++ u.cells.toList ++ cur.toList.drop (i * cs.length + j + u.cells.toList.length))[m]? = some v → (w.setRow g (cur.toList.take (i * cs.length + j) ++ u.cells.toList ++ cur.toList.drop (i * cs.length + j + u.cells.toList.length)).toArray).cell? ⟨g, m, none⟩ = some v := by
                intro m v hm
                rw [cell_at hw']
                simpa using hm
              have hget := fun m => put_get (cur := cur.toList) (us := u.cells.toList) (o := i * cs.length + j) (n := m) (by simpa using hsz0)
              by_cases hn : n = i
              · subst hn
                rw [List.getElem?_set_self hi] at hz
                simp only [Option.some.injEq] at hz
                subst hz
                refine RepVs_L (RepVs_mono (fun b hb => hb.weaken' fr) (fun _ _ => rfl) hnew) (fun m v hm => ?_) (fun b hb => (hI _ b hb).2) |> fun hh => RepL.mono (fun b hb => (hI _ b hb).1) (fun _ _ => rfl) _ _ _ _ rfl hh
                refine hcell' _ v ?_
                rw [hget]
                have hmlt : m < cs.length := by
                  have := (List.getElem?_eq_some_iff.1 hm).1
                  rw [RepVs_length hnew] at this
                  exact this
                rw [put_get (by rw [hlold]; exact hju)] at hm
                by_cases hc1 : j ≤ m ∧ m < j + u.cells.toList.length
                · rw [if_pos hc1] at hm
                  rw [if_pos (by omega), show n * cs.length + m - (n * cs.length + j) = m - j from by omega]
                  exact hm
                · rw [if_neg hc1] at hm
                  rw [if_neg (by omega)]
                  have := o2 m v hm
                  rw [cell_at e3] at this
                  simpa using this
              · rw [List.getElem?_set_ne (fun e => hn e.symm)] at hz
                obtain ⟨us, u1, u2⟩ := RepL_vs (e7 n z hz)
                have hnl : n < xs.length := (List.getElem?_eq_some_iff.1 hz).1
                refine RepVs_L (RepVs_mono (fun b hb => hb.weaken fr') (fun _ _ => rfl) u1) (fun m v hm => ?_) (fun b hb => (hI _ b hb).2) |> fun hh => RepL.mono (fun b hb => (hI _ b hb).1) (fun _ _ => rfl) _ _ _ _ rfl hh
                refine hcell' _ v ?_
                rw [hget]
                have hmlt : m < cs.length := by
                  have := (List.getElem?_eq_some_iff.1 hm).1
                  rw [RepVs_length u1] at this
                  exact this
                have hout : ¬ (i * cs.length + j ≤ n * cs.length + m ∧ n * cs.length + m < i * cs.length + j + u.cells.toList.length) := by
                  rintro ⟨g1, g2⟩
                  rcases Nat.lt_or_ge n i with hlt | hge
                  · have : (n + 1) * cs.length ≤ i * cs.length := Nat.mul_le_mul_right _ hlt
                    rw [Nat.add_mul, Nat.one_mul] at this
                    omega
                  · have : (i + 1) * cs.length ≤ n * cs.length := Nat.mul_le_mul_right _ (by omega)
                    rw [Nat.add_mul, Nat.one_mul] at this
                    omega
                rw [if_neg hout]
                have := u2 m v hm
                rw [cell_at e3] at this
                simpa using this
      · cases he
    · cases he
end
end Go.Proofs.Ai

set_option linter.unusedVariables false
set_option linter.constructorNameAsVariable false
namespace Go.Proofs.Ai
open Go.RowKit

section
variable {E : Env} {P : Program} {st : St} {a : Act} {w w' : World} {h h' : Heap} {ρ ρ' : Rho} {I : Bool → Nat → Prop}

/-! ### 13. make -/
theorem dfltL_hd {c : CT} {cs : List CT} : hd (CT.dfltL (c :: cs)) = c.dflt := by cases cs <;> rfl
theorem dfltL_tl {c : CT} {cs : List CT} : tl (CT.dfltL (c :: cs)) = CT.dfltL cs := by cases cs <;> rfl
theorem repZero {F : Nat → Prop} {c : CT} {v : Value} (hz : zeroB c v = true) : Rep w F c c.dflt v := by
  cases c with
  | any k => cases v <;> simp [zeroB] at hz
  | ptr cs => cases v <;> simp [zeroB] at hz
  | clo fn cs => cases v <;> simp [zeroB] at hz
  | one =>
    show v.oneCell' = true
    simpa [zeroB] using hz
  | i k =>
    cases v <;> simp only [zeroB, Bool.and_eq_true, decide_eq_true_eq] at hz <;> try (cases hz; done)
    obtain ⟨rfl, rfl⟩ := hz
    exact ⟨rfl, by show (Lit.int k 0).wf = true; cases k <;> rfl⟩
  | b =>
    cases v <;> simp only [zeroB] at hz <;> try (cases hz; done)
    rename_i b
    cases b <;> simp at hz
    exact rfl
  | s =>
    cases v <;> simp only [zeroB, decide_eq_true_eq] at hz <;> try (cases hz; done)
    rename_i s
    have : s = ByteArray.empty := by
      cases s with | mk d => simp [ByteArray.size] at hz; subst hz; rfl
    subst this
    exact ⟨rfl, Nat.zero_le _⟩
  | l cs =>
    unfold zeroB at hz
    split at hz <;> simp_all
    exact ⟨none, 0, rfl, Nat.le_refl _, Nat.zero_le _, fun _ => rfl, fun hne => (hne rfl).elim⟩
theorem repVs_zero {F : Nat → Prop} : ∀ {ces : List CC} {vs : List Value}, zerosB ces vs = true → RepVs w F (ces.map (·.c)) (CT.dfltL (ces.map (·.c))) vs
  | [], [], _ => by unfold RepVs; rfl
  | c :: cs, v :: vs, hz => by
    simp only [zerosB, Bool.and_eq_true] at hz
    show RepVs w F (c.c :: cs.map (·.c)) (CT.dfltL (c.c :: cs.map (·.c))) _
    unfold RepVs
    exact ⟨v, vs, rfl, by rw [dfltL_hd]; exact repZero hz.1, by rw [dfltL_tl]; exact repVs_zero hz.2⟩
  | [], _ :: _, hz => by simp [zerosB] at hz
  | _ :: _, [], hz => by simp [zerosB] at hz

theorem make_ok (hc : Conc E st a w ρ) {t : Tmp} {T : TypeId} {ti : TI} (ht : TIOk E.P T ti) {x y : AV} {u v : Value} {st' : St} {b : Bool}
    (hx : ConcV w (Imm E w st.heap ρ) st.heap ρ x u) (hy : ConcV w (Imm E w st.heap ρ) st.heap ρ y v) (he : makeE st t ti x y = some (b, st')) (hb : b = true) :
    ∃ r w' ρ', (Instr.makeSlice T u v).run E.P w = .ok r w' ∧ Conc E st' (a.put (some t) r) w' ρ' ∧ Below w.heap.size w w' := by
  subst hb
  unfold makeE at he
  split at he
  · rename_i e agg ces by_ k1 l k2 c
    simp only [Option.some.injEq, Prod.mk.injEq, Bool.and_eq_true, le47_eq, le63_eq, decide_eq_true_eq] at he
    obtain ⟨⟨⟨⟨h0, hlc⟩, hby⟩, h63⟩, rfl⟩ := he
    obtain ⟨i1, i2, z, h1, h2, h3, h4, h5, h6, h7, h8, h9, h10⟩ := ht
    unfold ConcV at hx hy
    obtain ⟨rfl, _⟩ := hx
    obtain ⟨rfl, _⟩ := hy
    have hrun := run_make (P := E.P) w T e i2 z h1 h5 h9 k1 k2 l c h0 hlc (by rw [h8, Int.mul_comm]; omega) h63
    have hzl := zerosB_length h10
    have hnew := hc.new (name t) (.sl true e (ces.map (·.c)) (List.replicate l.toNat (CT.dfltL _))) (some (w.heap.size, c.toNat)) (w.alloc (.cells (madeCells z.cells (c.toNat * i2.size)) e)) (.inr ⟨_, _, _, rfl, rfl, rfl⟩)
      (fun keep sub _ _ hstep hI hL => .inr ⟨w.heap.size, c.toNat, _, upd_same _ _ _, .inl hc.size, fun _ => hc.size, heap_alloc_new w _, by simp; omega, by simp only [maxLen]; omega, by rw [size_madeCells, h6, List.length_map], fun i y hi => by
        simp only [List.getElem?_replicate] at hi
        split at hi
        · rename_i hil
          simp only [Option.some.injEq] at hi
          subst hi
          refine RepVs_L (w := w.alloc (.cells (madeCells z.cells (c.toNat * i2.size)) e)) (repVs_zero h10) (fun j v hj => ?_) (fun _ _ => rfl)
          have hjl : j < ces.length := by
            have := (List.getElem?_eq_some_iff.1 hj).1
            rwa [← hzl] at this
          have hm : i * ces.length + j < c.toNat * i2.size := by rw [h6]; exact mul_add_lt (by omega) hjl
          have hsz : z.cells.size = ces.length := by rw [hzl, Array.length_toList]
          rw [cell_at (heap_alloc_new w _), List.length_map]
          unfold madeCells
          rw [Array.getElem?_map, Array.getElem?_range, if_pos hm]
          simp only [Option.map_some, Option.some.injEq, hsz]
          rw [Nat.add_comm, Nat.add_mul_mod_self_right, Nat.mod_eq_of_lt hjl]
          rw [Array.getElem?_toList] at hj
          rw [getElem!_def, hj]
        · cases hi⟩)
    refine ⟨_, _, _, hrun, hnew.1.set (some t) ?_, (Below.refl _ w).alloc (Nat.le_refl _) _⟩
    unfold ConcV
    exact ⟨_, _, _, _, new_sl _ _ _ _ _ _, by rw [upd_same]; simp [hdr]⟩
  · cases he

/-! ### 14. append -/
theorem append_run (T e : TypeId) (ty : TypeId) (i : TypeInfo) (z : Value) (size bytes : Nat) (ht : P.underlying T = some (.slice e)) (hi : P.info? e = some i) (hz : i.zero = some z)
    (hsize : i.size = size) (hby : i.bytes = bytes) (hzs : z.cells.size = size)
    (loc : Option (Nat × Nat)) (n : Nat) (cur : Array Value)
    (hown : (loc = none ∧ n = 0) ∨ ∃ g cap, loc = some (g, cap) ∧ w.heap[g]? = some (.cells cur e (0, 0)) ∧ n ≤ cap ∧ cap ≤ maxLen ∧ cur.size = cap * size)
    (ad : Option Addr) (m c : Nat) (news : List Value) (hl : news.length = m * size) (hnone : ad = none → m = 0 ∧ c = 0) (hnews : ∀ b, ad = some b → ∀ j u, news[j]? = some u → w.cell? (b.add j) = some u) (h1 : ∀ u ∈ news, u.oneCell' = true)
    (h63 : n + m ≤ maxLen) (hbytes : (n + m) * bytes ≤ 140737488355328) :
    ∃ loc' w', (Builtin.append_ #[T, T] ty #[hdr loc n, .slice ad m c]).run P w = .ok (hdr loc' (n + m)) w' ∧
      ((loc = none ∧ n = 0 ∧ m = 0 ∧ loc' = none ∧ w' = w) ∨
       (∃ g cap, loc = some (g, cap) ∧ loc' = loc ∧ n + m ≤ cap ∧ w' = w.setRow g (cur.toList.take (n * size) ++ news ++ cur.toList.drop (n * size + news.length)).toArray) ∨
       (∃ cap' cur', loc' = some (w.heap.size, cap') ∧ w' = w.drew.alloc (.cells cur' e) ∧ n + m ≤ cap' ∧ cap' ≤ maxLen ∧ cur'.size = cap' * size ∧
          ∀ j, j < (n + m) * size → cur'[j]? = if j < n * size then cur[j]? else news[j - n * size]?)) := by
  subst hsize
  subst hby
  have hsmall : n + m ≤ 9223372036854775807 := by simp only [maxLen] at h63; omega
  rcases hown with ⟨rfl, rfl⟩ | ⟨g, cap, rfl, hg, hnc, hcm, hcs⟩
  · cases ad with
    | none =>
      obtain ⟨rfl, rfl⟩ := hnone rfl
      refine ⟨none, w, ?_, .inl ⟨rfl, rfl, rfl, rfl, rfl⟩⟩
      simp [hdr, Builtin.append_, run_underlying ht, sizeOf, typeInfo, hi, Builtin.lenOf, Builtin.firstCells]
    | some b =>
      by_cases hm : m = 0
      · subst hm
        have hn : news = [] := List.eq_nil_of_length_eq_zero (by simpa using hl)
        subst hn
        refine ⟨none, w, ?_, .inl ⟨rfl, rfl, rfl, rfl, rfl⟩⟩
        simp [hdr, Builtin.append_, run_underlying ht, sizeOf, typeInfo, hi, Builtin.lenOf, Builtin.firstCells, loadCells, loadCellsFrom]
      · have hr := run_append_nil (P := P) w T ty e i z ht hi hz b m c news hl (hnews b rfl) (by omega) (by omega) (by have hb := hbytes; simp only [Nat.zero_add] at hb; omega)
        have hge := grownCap_ge w m 0 e
        have hcm := grownCap_le_maxLen w m 0 e (by simpa using h63)
        refine ⟨some (w.heap.size, grownCap w m 0 e), _, by simpa [hdr] using hr, .inr (.inr ⟨_, _, rfl, rfl, by simpa using hge, hcm, ?_, ?_⟩)⟩
        · simp only [Array.size_append, List.size_toArray, size_zeroCells, hzs, hl, ← Nat.add_mul]
          congr 1
          omega
        · intro j hj
          simp only [Nat.zero_add, Nat.zero_mul, Nat.not_lt_zero, if_false, Nat.sub_zero] at hj ⊢
          rw [Array.getElem?_append, if_pos (by simp; omega)]
          simp
  · by_cases hroom : n + m ≤ cap
    · have hfit : n * i.size + news.length ≤ cur.size := by rw [hl, hcs, ← Nat.add_mul]; exact Nat.mul_le_mul_right _ hroom
      cases ad with
      | none =>
        obtain ⟨rfl, rfl⟩ := hnone rfl
        have hn : news = [] := List.eq_nil_of_length_eq_zero (by simpa using hl)
        subst hn
        refine ⟨some (g, cap), w, ?_, .inr (.inl ⟨g, cap, rfl, rfl, hroom, ?_⟩)⟩
        · simp [hdr, Builtin.append_, run_underlying ht, sizeOf, typeInfo, hi, Builtin.lenOf, Builtin.firstCells, hnc, storeCells]
        · simp only [List.append_nil, List.length_nil, Nat.add_zero, List.take_append_drop, Array.toArray_toList]
          exact (setRow_self w g cur e (0, 0) hg).symm
      | some b =>
        have hr := run_append_room (P := P) w T ty e i ht hi g n cap cur hg b m c news hl (hnews b rfl) h1 hroom hfit
        exact ⟨some (g, cap), _, by simpa [hdr] using hr, .inr (.inl ⟨g, cap, rfl, rfl, hroom, rfl⟩)⟩
    · cases ad with
      | none =>
        obtain ⟨rfl, rfl⟩ := hnone rfl
        omega
      | some b =>
        have holds : ∀ j u, (cur.toList.take (n * i.size))[j]? = some u → w.cell? ((⟨g, 0, none⟩ : Addr).add j) = some u := by
          intro j u hu
          rw [Addr.add_lit, Nat.zero_add, cell_at hg]
          rw [List.getElem?_take] at hu
          split at hu
          · simpa using hu
          · cases hu
        have hlo : (cur.toList.take (n * i.size)).length = n * i.size := by
          rw [List.length_take, Array.length_toList, hcs]
          exact Nat.min_eq_left (Nat.mul_le_mul_right _ hnc)
        have hr := run_append_grow (P := P) w T ty e i z ht hi hz ⟨g, 0, none⟩ n cap (cur.toList.take (n * i.size)) hlo holds b m c news hl (hnews b rfl) (by omega) (by omega) (growslice_fits (by omega) hbytes)
        have hlen : (List.take (n * i.size) cur.toList ++ news).length = (n + m) * i.size := by rw [List.length_append, hlo, hl, Nat.add_mul]
        have hge := grownCap_ge w (n + m) cap e
        have hcm' := grownCap_le_maxLen w (n + m) cap e h63
        refine ⟨some (w.heap.size, grownCap w (n + m) cap e), _, by simpa [hdr] using hr, .inr (.inr ⟨_, _, rfl, rfl, hge, hcm', ?_, ?_⟩)⟩
        · simp only [Array.size_append, List.size_toArray, size_zeroCells, hzs, hlen, ← Nat.add_mul]
          congr 1
          omega
        · intro j hj
          rw [Array.getElem?_append, if_pos (by simp only [List.size_toArray, hlen]; exact hj), List.getElem?_toArray, List.getElem?_append, hlo]
          by_cases hj1 : j < n * i.size
          · rw [if_pos hj1, if_pos hj1, List.getElem?_take, if_pos hj1]
            simp
          · rw [if_neg hj1, if_neg hj1]
end
end Go.Proofs.Ai

set_option linter.unusedVariables false
set_option linter.constructorNameAsVariable false
namespace Go.Proofs.Ai
open Go.RowKit

section
variable {E : Env} {P : Program} {st : St} {a : Act} {w w' : World} {h h' : Heap} {ρ ρ' : Rho} {I : Bool → Nat → Prop}

theorem Rep_one {F : Nat → Prop} : {c : CT} → {x : c.den} → {u : Value} → Rep w F c x u → u.oneCell' = true
  | .i k, x, u, hr => by obtain ⟨rfl, _⟩ := hr; rfl
  | .any k, x, u, hr => by obtain ⟨n, rfl, _⟩ := hr; rfl
  | .one, x, u, hr => hr
  | .ptr cs, x, u, hr => by obtain ⟨b, off, rfl, _⟩ := hr; rfl
  | .clo fn cs, x, u, hr => by obtain ⟨us, rfl, _⟩ := hr; rfl
  | .b, x, u, hr => by have : u = .bool x := hr; subst this; rfl
  | .s, x, u, hr => by obtain ⟨rfl, _⟩ := hr; rfl
  | .l cs, x, u, hr => by obtain ⟨_, _, rfl, _⟩ := hr; rfl
theorem RepVs_one {F : Nat → Prop} : ∀ {cs : List CT} {x : CT.denL cs} {us : List Value}, RepVs w F cs x us → ∀ u ∈ us, u.oneCell' = true
  | [], x, us, hh => by unfold RepVs at hh; subst hh; simp
  | c :: cs, x, us, hh => by
    unfold RepVs at hh
    obtain ⟨u, r, rfl, h1, h2⟩ := hh
    intro v hv
    simp only [List.mem_cons] at hv
    rcases hv with rfl | hv
    · exact Rep_one h1
    · exact RepVs_one h2 v hv

/-- The values of a run of elements. -/
theorem elems_vals {F : Nat → Prop} {cs : List CT} {b : Nat} : ∀ (ys : List (CT.denL cs)) (off : Nat), (∀ i z, ys[i]? = some z → RepL w F cs z b (off + i * cs.length)) →
    ∃ news : List Value, news.length = ys.length * cs.length ∧ (∀ j u, news[j]? = some u → w.cell? ⟨b, off + j, none⟩ = some u) ∧ (∀ u ∈ news, u.oneCell' = true) ∧
      ∀ i z, ys[i]? = some z → RepVs w F cs z ((news.drop (i * cs.length)).take cs.length)
  | [], off, _ => ⟨[], by simp, fun j u hj => by simp at hj, by simp, fun i z hi => by simp at hi⟩
  | y :: ys, off, hh => by
    obtain ⟨us, u1, u2⟩ := RepL_vs (hh 0 y (by simp))
    obtain ⟨news, n1, n2, n3, n4⟩ := elems_vals ys (off + cs.length) (fun i z hi => by
      have := hh (i + 1) z (by simpa using hi)
      rwa [show off + (i + 1) * cs.length = off + cs.length + i * cs.length from by rw [Nat.add_mul]; omega] at this)
    have hul := RepVs_length u1
    refine ⟨us ++ news, by rw [List.length_append, hul, n1, List.length_cons, Nat.add_mul]; omega, fun j u hj => ?_, fun u hu => ?_, fun i z hi => ?_⟩
    · rw [List.getElem?_append] at hj
      split at hj
      · have := u2 j u hj; simpa using this
      · rename_i hlt
        have := n2 _ u hj
        rwa [hul, show off + cs.length + (j - cs.length) = off + j from by omega] at this
    · simp only [List.mem_append] at hu
      rcases hu with hu | hu
      · exact RepVs_one u1 u hu
      · exact n3 u hu
    · cases i with
      | zero =>
        simp only [List.getElem?_cons_zero, Option.some.injEq] at hi
        subst hi
        rw [Nat.zero_mul, List.drop_zero, ← hul, List.take_left]
        exact u1
      | succ i =>
        have := n4 i z (by simpa using hi)
        have e : (us ++ news).drop (us.length + i * cs.length) = news.drop (i * cs.length) := by simp [List.drop_append]
        rw [show (i + 1) * cs.length = us.length + i * cs.length from by rw [Nat.add_mul, hul]; omega, e]
        exact this

def ElemVals (w : World) (F : Nat → Prop) (cs : List CT) (ys : List (CT.denL cs)) (v : Value) : Prop :=
  ∃ (ad : Option Addr) (c : Nat) (news : List Value), v = .slice ad ys.length c ∧ news.length = ys.length * cs.length ∧ (ad = none → ys.length = 0 ∧ c = 0) ∧ (∀ b, ad = some b → ∀ j u, news[j]? = some u → w.cell? (b.add j) = some u) ∧ (∀ u ∈ news, u.oneCell' = true) ∧
      ∀ i z, ys[i]? = some z → RepVs w F cs z ((news.drop (i * cs.length)).take cs.length)
theorem elems_ok (hb : ∀ k ab, hget h k = some ab → BlockOk E w h ρ k ab) {cs : List CT} {x : AV} {v : Value} {fr : Bool} {ys : List (CT.denL cs)} (hx : ConcV w (Imm E w h ρ) h ρ x v) (he : elemsE h cs x = some (fr, ys)) :
    ElemVals w (Imm E w h ρ fr) cs ys v := by
  have hempty : ∀ (ad : Option Addr) (c : Nat), v = .slice ad ys.length c → ys = [] → (ad = none → c = 0) → ElemVals w (Imm E w h ρ fr) cs ys v := by
    rintro ad c hv rfl hc
    exact ⟨ad, c, [], hv, by simp, fun h => ⟨rfl, hc h⟩, fun b _ j u hj => by simp at hj, by simp, fun i z hi => by simp at hi⟩
  have hfull : ∀ (b off c : Nat), v = .slice (some ⟨b, off, none⟩) ys.length c → (∀ i z, ys[i]? = some z → RepL w (Imm E w h ρ fr) cs z b (off + i * cs.length)) → ElemVals w (Imm E w h ρ fr) cs ys v := by
    intro b off c hv hr
    obtain ⟨news, n1, n2, n3, n4⟩ := elems_vals ys off hr
    refine ⟨some ⟨b, off, none⟩, c, news, hv, n1, (fun h => by cases h), ?_, n3, n4⟩
    rintro b' hb' j u hj
    simp only [Option.some.injEq] at hb'
    subst hb'
    rw [Addr.add_lit]
    exact n2 j u hj
  unfold elemsE at he
  split at he
  · simp only [Option.some.injEq, Prod.mk.injEq] at he
    obtain ⟨rfl, rfl⟩ := he
    unfold ConcV at hx
    exact hempty none 0 hx rfl (fun _ => rfl)
  · split at he
    · rename_i fr' cs' xs e
      subst e
      simp only [Option.some.injEq, Prod.mk.injEq] at he
      obtain ⟨rfl, rfl⟩ := he
      unfold ConcV at hx
      rw [Rep_l] at hx
      obtain ⟨ad, cap, rfl, h1, h2, h3, h4⟩ := hx
      by_cases hxs : xs = []
      · exact hempty ad cap rfl hxs h3
      · obtain ⟨b, off, rfl, h5, h6⟩ := h4 hxs
        exact hfull b off cap rfl h6
    · cases he
  · rename_i k
    unfold ConcV at hx
    obtain ⟨fr0, e0, cs0, xs0, hg, rfl⟩ := hx
    rw [hg] at he
    simp only at he
    split at he
    · rename_i e
      subst e
      simp only [Option.some.injEq, Prod.mk.injEq] at he
      obtain ⟨rfl, rfl⟩ := he
      rcases hb k _ hg with ⟨e1, e2⟩ | ⟨g, cap, cur, e1, e2, hfr, e3, e4, e5, e6, e7⟩
      · subst e2
        exact hempty none 0 (by rw [e1]; rfl) rfl (fun _ => rfl)
      · exact hfull g 0 cap (by rw [e1]; rfl) (fun i z hi => by rw [Nat.zero_add]; exact e7 i z hi)
    · cases he
  · cases he

/-- One own block moves. -/
theorem Conc.moved (hc : Conc E st a w ρ) {k : Nat} {ab0 ab : AB} (hg : hget st.heap k = some ab0) (loc : Option (Nat × Nat)) (w' : World)
    (hsz : w.heap.size ≤ w'.heap.size) (hw : ∀ b, b < w.heap.size → (∀ c, ρ k ≠ some (b, c)) → w'.heap[b]? = w.heap[b]?)
    (hloc : ∀ g c, loc = some (g, c) → g = w.heap.size ∨ ∃ c', ρ k = some (g, c'))
    (hos : w'.os = w.os) (ht : w'.tape = w.tape) (hout : w'.output = w.output)
    (hab : (∀ fr b, Imm E w st.heap ρ fr b → Imm E w' (hset (hren (fun n => !(Nat.beq n k)) (fun _ => .bad) st.heap) k ab) (upd ρ k loc) fr b ∧ w'.heap[b]? = w.heap[b]?) →
      BlockOk E w' (hset (hren (fun n => !(Nat.beq n k)) (fun _ => .bad) st.heap) k ab) (upd ρ k loc) k ab) :
    Conc E ⟨AV.renL (fun n => !(Nat.beq n k)) (fun _ => .bad) st.tmps, hset (hren (fun n => !(Nat.beq n k)) (fun _ => .bad) st.heap) k ab⟩ a w' (upd ρ k loc) := by
  obtain ⟨H, hH⟩ : ∃ H, H = hset (hren (fun n => !(Nat.beq n k)) (fun _ => .bad) st.heap) k ab := ⟨_, rfl⟩
  rw [← hH] at hab ⊢
  have hget' : ∀ n, hget H n = if n = k then some ab else (hget st.heap n).map (AB.ren (fun n => !(Nat.beq n k)) (fun _ => .bad)) := by
    intro n; rw [hH, hget_hset, hget_hren]
  clear hH
  have hown : ∀ b, b < w.heap.size → Own H (upd ρ k loc) b → Own st.heap ρ b := by
    rintro b hb ⟨n, x, c, hn, hr⟩
    by_cases e : n = k
    · subst e
      rw [upd_same] at hr
      rcases hloc b c hr with h1 | ⟨c', h1⟩
      · omega
      · exact ⟨n, ab0, c', hg, h1⟩
    · rw [hget', if_neg e] at hn
      rw [upd_other e] at hr
      cases hx : hget st.heap n with
      | none => rw [hx] at hn; cases hn
      | some y => exact ⟨n, y, c, hx, hr⟩
  have hbl : ∀ b, b < w.heap.size → ¬ Own st.heap ρ b → w'.heap[b]? = w.heap[b]? := fun b hb hno => hw b hb (fun c hr => hno ⟨k, ab0, c, hg, hr⟩)
  have hI := Imm.step (E := E) (w := w) (w' := w') (h := st.heap) (h' := H) (ρ := ρ) (ρ' := upd ρ k loc) hsz hown hbl
  have hk : ∀ n x, (!(Nat.beq n k)) = true → hget st.heap n = some x → upd ρ k loc n = ρ n ∧ ∃ x', hget H n = some x' ∧ SameShape x x' := by
    intro n x hn hx
    have hne := beq_ne.1 hn
    exact ⟨upd_other hne, _, by rw [hget', if_neg hne, hx]; rfl, AB.ren_shape _ _ _⟩
  have hs : ∀ n u, (!(Nat.beq n k)) = false → ConcV w (Imm E w st.heap ρ) st.heap ρ (.o n) u → ConcV w' (Imm E w' H (upd ρ k loc)) H (upd ρ k loc) .bad u := by
    intro n u _ _; unfold ConcV; trivial
  refine hc.trans (fun n => !(Nat.beq n k)) (fun _ => .bad) H (upd ρ k loc) w' hsz hown hbl hk hs ?_ ?_ hos ht hout
  · intro n x hn
    rw [hget'] at hn
    by_cases e : n = k
    · rw [if_pos e] at hn
      simp only [Option.some.injEq] at hn
      subst hn
      subst e
      exact hab hI
    · rw [if_neg e] at hn
      cases hx : hget st.heap n with
      | none => rw [hx] at hn; cases hn
      | some y =>
        rw [hx] at hn
        simp only [Option.map_some, Option.some.injEq] at hn
        subst hn
        refine BlockOk.step hI hk hs (hc.blk n y hx) (upd_other e) (fun g c hr => hw g (hc.lt ⟨n, y, c, hx, hr⟩) (fun c' hr' => ?_))
        exact e (hc.inj n k y ab0 g c c' hx hg hr hr')
  · intro n n' x x' g c c' hn hn' hr hr'
    rw [hget'] at hn hn'
    by_cases e : n = k
    · by_cases e' : n' = k
      · rw [e, e']
      · exfalso
        subst e
        rw [upd_same] at hr
        rw [upd_other e'] at hr'
        rw [if_neg e'] at hn'
        cases hx : hget st.heap n' with
        | none => rw [hx] at hn'; cases hn'
        | some y =>
          rcases hloc g c hr with h1 | ⟨c1, h1⟩
          · have := hc.lt ⟨n', y, c', hx, hr'⟩; omega
          · exact e' (hc.inj n' n y ab0 g c' c1 hx hg hr' h1)
    · by_cases e' : n' = k
      · exfalso
        subst e'
        rw [upd_same] at hr'
        rw [upd_other e] at hr
        rw [if_neg e] at hn
        cases hx : hget st.heap n with
        | none => rw [hx] at hn; cases hn
        | some y =>
          rcases hloc g c' hr' with h1 | ⟨c1, h1⟩
          · have := hc.lt ⟨n, y, c, hx, hr⟩; omega
          · exact e (hc.inj n n' y ab0 g c c1 hx hg hr h1)
      · rw [if_neg e] at hn
        rw [if_neg e'] at hn'
        rw [upd_other e] at hr
        rw [upd_other e'] at hr'
        cases hx : hget st.heap n with
        | none => rw [hx] at hn; cases hn
        | some y =>
          cases hx' : hget st.heap n' with
          | none => rw [hx'] at hn'; cases hn'
          | some y' => exact hc.inj n n' y y' g c c' hx hx' hr hr'
end
end Go.Proofs.Ai

set_option linter.unusedVariables false
set_option linter.constructorNameAsVariable false
namespace Go.Proofs.Ai
open Go.RowKit

section
variable {E : Env} {P : Program} {st : St} {a : Act} {w w' : World} {h h' : Heap} {ρ ρ' : Rho} {I : Bool → Nat → Prop}

theorem scrub_form (st : St) (k : Nat) (ab : AB) : (⟨(st.scrub k).tmps, hset (st.scrub k).heap k ab⟩ : St) = ⟨AV.renL (fun n => !(Nat.beq n k)) (fun _ => .bad) st.tmps, hset (hren (fun n => !(Nat.beq n k)) (fun _ => .bad) st.heap) k ab⟩ := rfl

/-- append onto an own slice -/
theorem append_core (hc : Conc E st a w ρ) {T : TypeId} (ty : TypeId) {e : TypeId} {agg : Bool} {ces : List CC} {by_ : Nat} (ht : TIOk E.P T (.sl e agg ces by_)) {k : Nat} {fr fr' : Bool} {cs : List CT} {xs ys : List (CT.denL cs)}
    (hg : hget st.heap k = some (.sl fr e cs xs)) (hcs : cs.length = ces.length) {v : Value} (hy : ElemVals w (Imm E w st.heap ρ fr') cs ys v)
    (hbytes : ((xs.length + ys.length : Nat) : Int) * by_ ≤ 140737488355328) (hlen : ((xs.length + ys.length : Nat) : Int) ≤ 9223372036854775807) :
    ∃ loc w', (Builtin.append_ #[T, T] ty #[hdr (ρ k) xs.length, v]).run E.P w = .ok (hdr loc (xs.length + ys.length)) w' ∧
      Conc E ⟨(st.scrub k).tmps, hset (st.scrub k).heap k (.sl (fr && fr') e cs (xs ++ ys))⟩ a w' (upd ρ k loc) := by
  obtain ⟨i1, i2, z, h1, h2, h3, h4, h5, h6, h7, h8, h9, h10⟩ := ht
  obtain ⟨ad, c, news, rfl, n1, n2, n3, n4, n5⟩ := hy
  have hzs : z.cells.size = cs.length := by rw [hcs, zerosB_length h10, Array.length_toList]
  have h63 : xs.length + ys.length ≤ maxLen := by simp only [maxLen]; omega
  have hb' : (xs.length + ys.length) * by_ ≤ 140737488355328 := by
    have : (((xs.length + ys.length) * by_ : Nat) : Int) ≤ 140737488355328 := by rw [Int.natCast_mul]; exact hbytes
    omega
  -- the block as it stands
  have hblk := hc.blk k _ hg
  obtain ⟨cur, hcur⟩ : ∃ cur : Array Value, (ρ k = none ∧ xs = []) ∨ ∃ g cap, ρ k = some (g, cap) ∧ (E.base ≤ g ∨ E.own0 g) ∧ (fr = true → E.base ≤ g) ∧ w.heap[g]? = some (.cells cur e (0, 0)) ∧ xs.length ≤ cap ∧ cap ≤ maxLen ∧ cur.size = cap * cs.length ∧
        ∀ i y, xs[i]? = some y → RepL w (Imm E w st.heap ρ fr) cs y g (i * cs.length) := by
    rcases hblk with hh | ⟨g, cap, cur, hh⟩
    · exact ⟨#[], .inl hh⟩
    · exact ⟨cur, .inr ⟨g, cap, hh⟩⟩
  obtain ⟨loc, w', hrun, hcase⟩ := append_run (P := E.P) (w := w) T e ty i2 z cs.length by_ h1 h5 h9 (by rw [h6, hcs]) h8 hzs (ρ k) xs.length cur
    (by
      rcases hcur with ⟨e1, e2⟩ | ⟨g, cap, e1, _, _, e2, e3, e4, e5, _⟩
      · exact .inl ⟨e1, by rw [e2]; rfl⟩
      · exact .inr ⟨g, cap, e1, e2, e3, e4, e5⟩)
    ad ys.length c news n1 n2 n3 n4 h63 hb'
  refine ⟨loc, w', hrun, ?_⟩
  rw [scrub_form]
  have hgrow : (∀ b c, ρ k = some (b, c) → b < w.heap.size) := fun b c hr => hc.lt ⟨k, _, c, hg, hr⟩
  refine hc.moved hg loc w' ?_ ?_ ?_ ?_ ?_ ?_ ?_
  · rcases hcase with ⟨_, _, _, _, rfl⟩ | ⟨g, cap, _, _, _, rfl⟩ | ⟨cap', cur', _, rfl, _⟩
    · exact Nat.le_refl _
    · simp
    · simp
  · intro b hb hne
    rcases hcase with ⟨_, _, _, _, rfl⟩ | ⟨g, cap, e1, _, _, rfl⟩ | ⟨cap', cur', _, rfl, _⟩
    · rfl
    · exact setRow_other w g b _ (fun e' => hne cap (by rw [e1, e']))
    · exact heap_alloc_old w.drew _ hb
  · intro g c' hl
    rcases hcase with ⟨_, _, _, e1, _⟩ | ⟨g', cap, e1, e2, _, _⟩ | ⟨cap', cur', e1, _, _⟩
    · rw [e1] at hl; cases hl
    · rw [e2] at hl; exact .inr ⟨c', hl⟩
    · rw [e1] at hl
      simp only [Option.some.injEq, Prod.mk.injEq] at hl
      exact .inl hl.1.symm
  · rcases hcase with ⟨_, _, _, _, rfl⟩ | ⟨g, cap, _, _, _, rfl⟩ | ⟨cap', cur', _, rfl, _⟩ <;> rfl
  · rcases hcase with ⟨_, _, _, _, rfl⟩ | ⟨g, cap, _, _, _, rfl⟩ | ⟨cap', cur', _, rfl, _⟩ <;> rfl
  · rcases hcase with ⟨_, _, _, _, rfl⟩ | ⟨g, cap, _, _, _, rfl⟩ | ⟨cap', cur', _, rfl, _⟩ <;> rfl
  · intro hI
    -- the elements in their new place
    have elems : ∀ (g : Nat) (cur' : Array Value), w'.heap[g]? = some (.cells cur' e (0, 0)) → (∀ j, j < (xs.length + ys.length) * cs.length → cur'[j]? = if j < xs.length * cs.length then cur[j]? else news[j - xs.length * cs.length]?) →
        ∀ i y, (xs ++ ys)[i]? = some y → RepL w' (Imm E w' (hset (hren (fun n => !(Nat.beq n k)) (fun _ => .bad) st.heap) k (.sl (fr && fr') e cs (xs ++ ys))) (upd ρ k loc) (fr && fr')) cs y g (i * cs.length) := by
      intro g cur' hg' hcells i y hi
      have hil : i < xs.length + ys.length := by
        have := (List.getElem?_eq_some_iff.1 hi).1
        simpa using this
      have hfin : ∀ (us : List Value), RepVs w (Imm E w st.heap ρ (fr && fr')) cs y us → (∀ m v, us[m]? = some v → cur'[i * cs.length + m]? = some v) → RepL w' (Imm E w' (hset (hren (fun n => !(Nat.beq n k)) (fun _ => .bad) st.heap) k (.sl (fr && fr') e cs (xs ++ ys))) (upd ρ k loc) (fr && fr')) cs y g (i * cs.length) := by
        intro us hus hm
        have := RepVs_L (w' := w') (b := g) (off := i * cs.length) hus (fun m v hv => by rw [cell_at hg']; exact hm m v hv) (fun b hb => (hI _ b hb).2)
        exact RepL.mono (fun b hb => (hI _ b hb).1) (fun _ _ => rfl) _ _ _ _ rfl this
      by_cases hix : i < xs.length
      · rw [List.getElem?_append_left hix] at hi
        rcases hcur with ⟨_, e2⟩ | ⟨g0, cap, e1, _, _, e3, e4, e5, e6, e7⟩
        · subst e2; simp at hix
        · obtain ⟨us, u1, u2⟩ := RepL_vs (e7 i y hi)
          refine hfin us (RepVs_mono (fun b hb => hb.weaken fr') (fun _ _ => rfl) u1) (fun m v hv => ?_)
          have hml : m < cs.length := by
            have := (List.getElem?_eq_some_iff.1 hv).1
            rwa [RepVs_length u1] at this
          have hlt : i * cs.length + m < xs.length * cs.length := mul_add_lt hix hml
          rw [hcells _ (mul_add_lt hil hml), if_pos hlt, ← cell_at e3]
          exact u2 m v hv
      · rw [List.getElem?_append_right (by omega)] at hi
        have hr := n5 (i - xs.length) y hi
        refine hfin _ (RepVs_mono (fun b hb => hb.weaken' fr) (fun _ _ => rfl) hr) (fun m v hv => ?_)
        have hml : m < cs.length := by
          have := (List.getElem?_eq_some_iff.1 hv).1
          rwa [RepVs_length hr] at this
        have hge : xs.length * cs.length ≤ i * cs.length := Nat.mul_le_mul_right _ (by omega)
        rw [hcells _ (mul_add_lt hil hml), if_neg (by omega)]
        rw [List.getElem?_take, if_pos hml, List.getElem?_drop] at hv
        rw [← hv]
        congr 1
        rw [Nat.sub_mul]
        omega
    rcases hcase with ⟨e1, e2, e3, e4, e5⟩ | ⟨g, cap, e1, e2, e3, e4⟩ | ⟨cap', cur', e1, e2, e3, e4, e5, e6⟩
    · refine .inl ⟨by rw [upd_same, e4], ?_⟩
      have h1 : xs = [] := List.eq_nil_of_length_eq_zero e2
      have h2 : ys = [] := List.eq_nil_of_length_eq_zero e3
      rw [h1, h2]; rfl
    · rcases hcur with ⟨f1, _⟩ | ⟨g0, cap0, f1, f2, f3, f4, f5, f6, f7, f8⟩
      · rw [f1] at e1; cases e1
      · rw [f1] at e1
        simp only [Option.some.injEq, Prod.mk.injEq] at e1
        obtain ⟨rfl, rfl⟩ := e1
        have hw' : w'.heap[g0]? = some (.cells (cur.toList.take (xs.length * cs.length) ++ news ++ cur.toList.drop (xs.length * cs.length + news.length)).toArray e (0, 0)) := by
          rw [e4]; exact setRow_heap w g0 cur _ e (0, 0) f4
        have hfit : xs.length * cs.length + news.length ≤ cur.toList.length := by
          have hm := Nat.mul_le_mul_right cs.length e3
          have hl : cur.toList.length = cap0 * cs.length := by rw [← f7]; exact Array.length_toList
          rw [n1, ← Nat.add_mul, hl]; exact hm
        refine .inr ⟨g0, cap0, _, by rw [upd_same, e2, f1], f2, fun hf => f3 (by cases fr <;> simp_all), hw', by simpa using e3, f6, ?_, elems g0 _ hw' (fun j hj => ?_)⟩
        · simp only [List.size_toArray, List.length_append, List.length_take, List.length_drop, Array.length_toList] at hfit ⊢
          omega
        · rw [List.getElem?_toArray, put_get hfit]
          by_cases hj1 : j < xs.length * cs.length
          · rw [if_neg (by omega), if_pos hj1]
            simp
          · rw [if_pos ⟨by omega, by rw [n1, ← Nat.add_mul]; exact hj⟩, if_neg hj1]
    · refine .inr ⟨w.heap.size, cap', cur', by rw [upd_same, e1], .inl hc.size, fun _ => hc.size, ?_, by simpa using e3, e4, e5, elems _ cur' ?_ e6⟩
      · rw [e2]; exact heap_alloc_new w.drew _
      · rw [e2]; exact heap_alloc_new w.drew _

theorem append_ok (hc : Conc E st a w ρ) {T : TypeId} (ty : TypeId) {ti : TI} (ht : TIOk E.P T ti) {t : Tmp} {x y : AV} {u v : Value} {st' : St} {b : Bool}
    (hx : ConcV w (Imm E w st.heap ρ) st.heap ρ x u) (hy : ConcV w (Imm E w st.heap ρ) st.heap ρ y v) (he : appendE st t ti x y = some (b, st')) (hb : b = true) :
    ∃ r w' ρ', (Builtin.append_ #[T, T] ty #[u, v]).run E.P w = .ok r w' ∧ Conc E st' (a.put (some t) r) w' ρ' := by
  subst hb
  unfold appendE at he
  split at he
  · rename_i e agg ces by_
    split at he
    · rename_i k
      unfold ConcV at hx
      obtain ⟨fr, e', cs, xs, hg, rfl⟩ := hx
      rw [hg] at he
      simp only at he
      split at he
      · rename_i hcond
        obtain ⟨rfl, hcs⟩ := hcond
        have fin : ∀ (fr' : Bool) (ys : List (CT.denL cs)), elemsE st.heap cs y = some (fr', ys) →
            (some (le47 ((xs.length + ys.length : Int) * by_) && le63 (xs.length + ys.length : Int), (⟨(st.scrub k).tmps, hset (st.scrub k).heap k (.sl (fr && fr') e' cs (xs ++ ys))⟩ : St).set (some t) (.o k)) : Option (Bool × St)) = some (true, st') →
            ∃ r w' ρ', (Builtin.append_ #[T, T] ty #[hdr (ρ k) xs.length, v]).run E.P w = .ok r w' ∧ Conc E st' (a.put (some t) r) w' ρ' := by
          intro fr' ys hel heq
          simp only [Option.some.injEq, Prod.mk.injEq, Bool.and_eq_true, le47_eq, le63_eq, decide_eq_true_eq] at heq
          obtain ⟨⟨hb1, hb2⟩, rfl⟩ := heq
          obtain ⟨loc, w', hrun, hcc⟩ := append_core hc ty ht hg hcs (elems_ok hc.blk hy hel) (by rw [Int.natCast_add]; exact hb1) (by omega)
          refine ⟨_, w', _, hrun, hcc.set (some t) ?_⟩
          unfold ConcV
          exact ⟨_, _, _, _, by rw [hget_hset, if_pos rfl], by rw [upd_same, List.length_append]⟩
        split at he
        · rename_i m
          split at he
          · cases he
          · cases hel : elemsE st.heap cs (.o m) with
            | none => rw [hel] at he; simp at he
            | some q =>
              obtain ⟨fr', ys⟩ := q
              rw [hel] at he
              exact fin fr' ys hel he
        · cases hel : elemsE st.heap cs y with
          | none => rw [hel] at he; simp at he
          | some q =>
            obtain ⟨fr', ys⟩ := q
            rw [hel] at he
            exact fin fr' ys hel he
      · cases he
    · cases he
  · cases he
end
end Go.Proofs.Ai
