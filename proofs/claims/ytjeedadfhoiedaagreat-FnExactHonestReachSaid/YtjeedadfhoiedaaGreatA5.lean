/- A general part of the proof: the walker by abstract values and its soundness, for every program; no condition. -/
import Derived.Test.YtjeedadfhoiedaaGreatA4
set_option linter.unusedVariables false
set_option linter.constructorNameAsVariable false
set_option linter.unusedSimpArgs false
namespace Go.Proofs.Ai
open Go.RowKit

section
variable {E : Env} {st st' : St} {a : Act} {w w' : World} {h h' : Heap} {ρ ρ' : Rho} {I : Bool → Nat → Prop} {τ : TypeId → TI} {ft : FuncId → Option FE}

/-! ### 23. A function -/
def resVar (P : Program) (tmps : Array Value) : ResultVar → Sem Value
  | .tmp t => pure (tmps.getD t undef)
  | .cell a t => do loadVar t (← asAddr (tmps.getD a undef))

theorem loadAt_var (P : Program) (t : TypeId) (b off : Nat) (w : World) : (Instr.loadAt t (.pointer (some ⟨b, off, none⟩))).run P w = (loadVar t ⟨b, off, none⟩).run P w := by
  simp [Instr.loadAt, Instr.sureAddr]

theorem resultsE_ok (hτ : ∀ t, TIOk E.P t (τ t)) (hc : Conc E st a w ρ) : ∀ (rs : List ResultVar) (l : List AV), resultsE τ st rs = some l → ∃ us : List Value, ConcVs w (Imm E w st.heap ρ) st.heap ρ l us ∧ ∀ (us' : List Value) (w1 : World), w1 = w →
      (rs.mapM (resVar E.P a.tmps)).run E.P w = .ok us w
  | [], l, he => by
    simp only [resultsE, Option.some.injEq] at he
    subst he
    exact ⟨[], by unfold ConcVs; trivial, fun _ _ _ => by simp⟩
  | .tmp t :: rs, l, he => by
    simp only [resultsE, Option.map_eq_some_iff] at he
    obtain ⟨l', h1, rfl⟩ := he
    obtain ⟨us, g1, g2⟩ := resultsE_ok hτ hc rs l' h1
    refine ⟨a.tmps.getD t undef :: us, by unfold ConcVs; exact ⟨hc.get t, g1⟩, fun us' w1 hw => ?_⟩
    have := g2 us w rfl
    simp only [List.mapM_cons, Sem.run_bind]
    simp [resVar, this]
  | .cell t e :: rs, l, he => by
    simp only [resultsE] at he
    cases h1 : loadE st.heap (τ e) (st.tmps.getD t .bad) with
    | none => rw [h1] at he; simp at he
    | some y =>
      cases h2 : resultsE τ st rs with
      | none => rw [h1, h2] at he; simp at he
      | some l' =>
        rw [h1, h2] at he
        simp only [Option.some.injEq] at he
        subst he
        obtain ⟨us, g1, g2⟩ := resultsE_ok hτ hc rs l' h2
        obtain ⟨v, k1, k2⟩ := load_ok hc.blk (hτ e) (hc.get t) h1
        refine ⟨v :: us, by unfold ConcVs; exact ⟨k2, g1⟩, fun us' w1 hw => ?_⟩
        have hat : ∃ l0, atPtr st.heap (st.tmps.getD t .bad) = some l0 := by
          unfold loadE at h1
          cases hh : atPtr st.heap (st.tmps.getD t .bad) with
          | some l0 => exact ⟨l0, rfl⟩
          | none => rw [hh] at h1; cases hti : (τ e).cells with
            | none => rw [hti] at h1; simp at h1
            | some p => obtain ⟨b, cs⟩ := p; rw [hti] at h1; cases b <;> simp at h1
        obtain ⟨l0, hat⟩ := hat
        obtain ⟨b, off, us0, hu, _⟩ := atPtr_ok hc.blk (hc.get t) hat
        have hk := k1 w (Below.refl _ w)
        rw [hu, loadAt_var] at hk
        have := g2 us w rfl
        simp only [List.mapM_cons, Sem.run_bind]
        simp [resVar, hu, asAddr, hk, this]

theorem run_results (P : Program) (fn : Func) (tmps : Array Value) (w : World) (us : List Value) (h : (fn.results.toList.mapM (resVar P tmps)).run P w = .ok us w) :
    (results fn tmps).run P w = .ok (pack us) w := by
  have key : ∀ (f : ResultVar → Sem Value), (∀ r, f r = resVar P tmps r) → (do let vs ← fn.results.mapM f; pure (if h : vs.size = 1 then vs[0] else Value.tuple vs) : Sem Value).run P w = .ok (pack us) w := by
    intro f hf
    have hfe : f = resVar P tmps := funext hf
    subst hfe
    have hm : fn.results.mapM (resVar P tmps) = List.toArray <$> (fn.results.toList.mapM (resVar P tmps)) := Array.mapM_eq_mapM_toList
    rw [hm]
    simp only [Sem.run_bind, Sem.run_map, h]
    match us with
    | [] => simp [pack]
    | [u] => simp [pack]
    | u :: v :: us => simp [pack]
  unfold results
  exact key _ (fun r => by cases r <;> rfl)

theorem retK_ok (hτ : ∀ t, TIOk E.P t (τ t)) (hc : Conc E st a w ρ) {fn : Func} {fr : Bool} {rs : List (Bool × List CT)} {e : Ex} {y : CT.denP rs} (hown : ∀ b, ¬ E.own0 b) (he : retK τ fn fr rs e st = some y) :
    (∀ id, e ≠ .exit id) ∧ ∃ v, (results fn a.tmps).run E.P w = .ok v w ∧ Moved E.er E.F E.w0 w ∧ ResOk w (ResF fr E.w0 E.F w) rs y v := by
  unfold retK at he
  split at he
  · cases he
  · rename_i hne
    refine ⟨fun id h => hne id h, ?_⟩
    split at he
    · rename_i l0 h0
      obtain ⟨ks, hks⟩ : ∃ ks, ks = ownsL (l0.flatMap AV.cells) := ⟨_, rfl⟩
      rw [← hks] at he
      obtain ⟨ρ1, d1, _, _⟩ := hc.freezeAll ks
      split at he
      · rename_i l hl
        obtain ⟨us, g1, g2⟩ := resultsE_ok hτ d1 _ _ hl
        have hrun := run_results E.P fn a.tmps w us (g2 us w rfl)
        refine ⟨_, hrun, ⟨hc.os, hc.tape, hc.output, hc.size, fun k hk => by rcases hc.frm k hk (hown k) with h | h; exact .inl h; exact .inr h⟩, ?_⟩
        split at he
        · rename_i f y' hfit hm
          have hargs := marsh_ok g1 hfit hm
          cases hfo : (f || !fr) with
          | false => rw [hfo] at he; simp at he
          | true =>
            rw [hfo] at he
            simp only [cond_true, Option.some.injEq] at he
            subst he
            refine ⟨us, ArgsOk.mono (fun b hb => ?_) (fun _ _ => rfl) hargs, rfl⟩
            obtain ⟨b1, b2, b3, b4, b5⟩ := hb
            cases f with
            | true => exact .inl ⟨b3 rfl, b1, fun _ => b5 (.inr rfl)⟩
            | false =>
              have hfr : fr = false := by cases fr <;> simp_all
              rcases b4 rfl with h | h | h
              · exact .inr ⟨hfr, h⟩
              · exact .inl ⟨h, b1, fun h => by rw [hfr] at h; cases h⟩
              · exact (hown b h).elim
        · cases he
      · cases he
    · cases he

theorem ArgsOk.length {F : Nat → Prop} : ∀ {ps : List (Bool × List CT)} {x : CT.denP ps} {us : List Value}, ArgsOk w F ps x us → us.length = ps.length
  | [], _, _, h => by have : _ = [] := h; subst this; rfl
  | p :: ps, x, _, ⟨u, r, e, _, g2⟩ => by subst e; simp [ArgsOk.length g2]

/-! what memory can hold -/
mutual
def okD : (c : CT) → c.den → Prop
  | .i k, n => IntOk k n
  | .any _, _ => True
  | .one, _ => True
  | .ptr cs, x => okL cs x
  | .clo _ cs, x => okL cs x
  | .b, _ => True
  | .s, x => x.size ≤ maxLen
  | .l cs, xs => (els xs).length ≤ maxLen ∧ ∀ x ∈ els xs, okL cs x
def okL : (cs : List CT) → CT.denL cs → Prop
  | [], _ => True
  | [c], x => okD c x
  | c :: d :: cs, x => okD c x.1 ∧ okL (d :: cs) x.2
end
def okP : (ps : List (Bool × List CT)) → CT.denP ps → Prop
  | [], _ => True
  | p :: ps, x => okL p.2 (hdP x) ∧ okP ps (tlP x)
mutual
theorem Rep.ok {F : Nat → Prop} : (c : CT) → (x : c.den) → (u : Value) → Rep w F c x u → okD c x
  | .i k, n, u, h => by unfold Rep at h; unfold okD; exact h.2
  | .any k, x, u, h => by unfold okD; trivial
  | .one, x, u, h => by unfold okD; trivial
  | .ptr cs, x, u, h => by
    unfold Rep at h
    obtain ⟨b, off, _, _, hr⟩ := h
    unfold okD
    exact RepL.ok cs x b off hr
  | .clo fn cs, x, u, h => by
    unfold Rep at h
    obtain ⟨us, _, hr⟩ := h
    unfold okD
    exact RepM.ok cs x us hr
  | .b, x, u, h => by unfold okD; trivial
  | .s, x, u, h => by unfold Rep at h; unfold okD; exact h.2
  | .l cs, xs, u, h => by
    unfold Rep at h
    obtain ⟨a, cap, e, h1, h2, h3, h4⟩ := h
    unfold okD
    refine ⟨Nat.le_trans h1 h2, fun x hx => ?_⟩
    obtain ⟨i, hi⟩ := List.getElem?_of_mem hx
    obtain ⟨b, off, _, _, h5⟩ := h4 (List.ne_nil_of_mem hx)
    exact RepL.ok cs x b _ (h5 i x hi)
theorem RepL.ok {F : Nat → Prop} : (cs : List CT) → (x : CT.denL cs) → (b o : Nat) → RepL w F cs x b o → okL cs x
  | [], _, _, _, _ => by unfold okL; trivial
  | [c], x, b, o, h => by
    unfold RepL at h
    unfold okL
    obtain ⟨u, _, h⟩ := h
    exact Rep.ok c x u h
  | c :: d :: cs, x, b, o, h => by
    unfold RepL at h
    unfold okL
    obtain ⟨⟨u, _, h1⟩, h2⟩ := h
    exact ⟨Rep.ok c x.1 u h1, RepL.ok (d :: cs) x.2 b (o + 1) h2⟩
theorem RepM.ok {F : Nat → Prop} : (cs : List CT) → (x : CT.denL cs) → (us : List Value) → RepM w F cs x us → okL cs x
  | [], _, _, _ => by unfold okL; trivial
  | [c], x, us, h => by
    unfold RepM at h
    unfold okL
    obtain ⟨u, _, h⟩ := h
    exact Rep.ok c x u h
  | c :: d :: cs, x, us, h => by
    unfold RepM at h
    unfold okL
    obtain ⟨u, r, _, h1, h2⟩ := h
    exact ⟨Rep.ok c x.1 u h1, RepM.ok (d :: cs) x.2 r h2⟩
end
theorem okL_cons {c : CT} {cs : List CT} {x : CT.denL (c :: cs)} : okL (c :: cs) x ↔ okD c (hd x) ∧ okL cs (tl x) := by
  cases cs with
  | nil => simp [okL, hd]
  | cons d cs => simp [okL, hd, tl]
theorem RepVs.ok {F : Nat → Prop} : ∀ {cs : List CT} {x : CT.denL cs} {us : List Value}, RepVs w F cs x us → okL cs x
  | [], _, _, _ => by unfold okL; trivial
  | c :: cs, x, us, h => by
    unfold RepVs at h
    obtain ⟨u, r, _, h1, h2⟩ := h
    rw [okL_cons]
    exact ⟨Rep.ok _ _ _ h1, RepVs.ok h2⟩
theorem ArgsOk.ok {F : Nat → Prop} : ∀ {ps : List (Bool × List CT)} {x : CT.denP ps} {us : List Value}, ArgsOk w F ps x us → okP ps x
  | [], _, _, _ => trivial
  | (b, cs) :: ps, x, us, ⟨u, r, _, h1, h2⟩ => by
    refine ⟨?_, h2.ok⟩
    cases b with
    | true => obtain ⟨us, _, h⟩ := h1; exact h.ok
    | false => exact RepVs.ok (cs := cs) h1

theorem sat_of_run {P : Program} {f : FuncId} {FE : FE} {fn : Func} {c : Code} (hf : P.funcs[f]? = some fn) (hb : fn.body = some c) (hname : fn.name ≠ "runtime.NumGoroutine") (hm : P.follows .mixedOrders = true)
    (hτ : ∀ t, TIOk P t (τ t)) (her : erOf τ = FE.er) (hft : ∀ f e, ft f = some e → Sat P f e) {hint : Nat → Hint} {ord : Nat → List Nat} (ho : ordsOk ord c = true) (hd : FE.er = true → noDraw c = true)
    (hrun : ∀ x y, okP FE.ps x → FE.φ x = some y → ∃ n, runF τ ft hint ord fn FE.ps FE.rs FE.fr n x = some y) : Sat P f FE := by
  refine ⟨⟨fn, hf, by rw [hb]; rfl, hname⟩, fun x y hy w F us hF hL hargs => ?_⟩
  obtain ⟨n, hn⟩ := hrun x y hargs.ok hy
  unfold runF at hn
  rw [hb] at hn
  simp only at hn
  obtain ⟨E, hE⟩ : ∃ E : Env, E = ⟨P, w, F, fun _ => False, FE.er⟩ := ⟨_, rfl⟩
  have hlen := hargs.length
  have hc : Conc E ⟨valsAV false FE.ps x ++ List.replicate (fn.ntmps - FE.ps.length) .bad, []⟩ { tmps := us.toArray ++ Array.replicate (fn.ntmps - us.toArray.size) undef, defers := [] } w (fun _ => none) := by
    subst hE
    refine ⟨?_, rfl, ?_, ?_, fun b _ _ => .inl rfl, Nat.le_refl _, rfl, rfl, rfl⟩
    · simp only [Array.toList_append, Array.toList_replicate, List.size_toArray, hlen]
      refine ConcVs_append (valsAV_ok (ArgsOk.mono (fun b hb => ?_) (fun _ _ => rfl) hargs)) ?_
      · refine ⟨hF b hb, ?_, (fun h => by simp at h), fun _ => .inl hb, fun h => by rcases h with h | h; exact hL h b hb; cases h⟩
        rintro ⟨k, ab, c, hk, _⟩
        simp [hget] at hk
      · refine ConcVs_of (by simp) (fun i x u hx hu => ?_)
        rw [List.getElem?_replicate] at hx
        split at hx
        · simp only [Option.some.injEq] at hx
          subst hx
          unfold ConcV; trivial
        · cases hx
    · intro k ab hk; simp [hget] at hk
    · intro k k' ab ab' g c c' hk; simp [hget] at hk
  have hEP : E.P = P := by rw [hE]
  have hEw : E.w0 = w := by rw [hE]
  have hEF : E.F = F := by rw [hE]
  have hEe : E.er = FE.er := by rw [hE]
  have hEo : ∀ b, ¬ E.own0 b := by rw [hE]; exact fun _ h => h
  clear hE
  subst hEP; subst hEw; subst hEF
  refine calls_of_wp hf hb (codeK_ok hτ (by rw [her, hEe]) hft hm c n _ _ _ _ _ _ ho (fun h => hd (by rw [← hEe]; exact h)) (fun c a w h => ?_) (fun e st a w' ρ h1 h2 => ?_) hc hn)
  · obtain ⟨_, v, h, _⟩ := h
    cases h
  · obtain ⟨h3, v, h4, h5, h6⟩ := retK_ok hτ h2 hEo h1
    cases e with
    | exit id => exact (h3 id rfl).elim
    | normal => exact ⟨h2.dfr, v, h4, v, rfl, by rw [← hEe]; exact h5, h6⟩
    | ret => exact ⟨h2.dfr, v, h4, v, rfl, by rw [← hEe]; exact h5, h6⟩
end
end Go.Proofs.Ai

set_option linter.unusedVariables false
set_option linter.constructorNameAsVariable false
namespace Go.Proofs.Ai
open Go.RowKit

/-! ### 24. A table of types; contracts in a list -/
def zeroOk (i : TypeInfo) (ces : List CC) : Bool :=
  match i.zero with
  | some z => zerosB ces z.cells.toList
  | none => false
def fieldsOk (P : Program) (fs : List (Bool × List CC)) : Nat → List Field → Bool
  | _, [] => true
  | j, f :: r => (match fieldOff fs j, fs[j]?, P.info? f.type with
      | some o, some g, some i' => Nat.beq o f.offset && Nat.beq i'.size g.2.length && !(Nat.beq g.2.length 0)
      | _, _, _ => false) && fieldsOk P fs (j + 1) r
def tiB (P : Program) (t : TypeId) : TI → Bool
  | .sc c => match P.underlying t, P.info? t with
    | some d, some i => scD c d && Nat.beq i.size 1 && zeroOk i [⟨c, 0⟩] && !aggD d
    | _, _ => false
  | .st fs => match P.underlying t, P.info? t with
    | some (.struct pfs), some i => Nat.beq pfs.toList.length fs.length && Nat.beq i.size (fs.flatMap (·.2)).length && (match i.zero with
        | some (.agg zs) => zerosB (fs.flatMap (·.2)) zs.toList
        | _ => false) && fieldsOk P fs 0 pfs.toList
    | _, _ => false
  | .sl e agg ces by_ => match P.underlying t, P.info? t, P.info? e with
    | some (.slice e'), some i, some i' => Nat.beq e' e && Nat.beq i.size 1 && (match i.zero with
        | some (.slice none 0 0) => true
        | _ => false) && Nat.beq i'.size ces.length && !(Nat.beq ces.length 0) && Nat.beq i'.bytes by_ && zeroOk i' ces
    | _, _, _ => false
  | _ => true

theorem fieldsOk_spec {P : Program} {fs : List (Bool × List CC)} : ∀ (l : List Field) (j : Nat), fieldsOk P fs j l = true → ∀ m f, l[m]? = some f →
    ∃ g i', fieldOff fs (j + m) = some f.offset ∧ fs[j + m]? = some g ∧ P.info? f.type = some i' ∧ i'.size = g.2.length ∧ g.2.length ≠ 0
  | [], _, _, m, f, hm => by simp at hm
  | x :: l, j, h, m, f, hm => by
    simp only [fieldsOk, Bool.and_eq_true] at h
    cases m with
    | zero =>
      simp only [List.getElem?_cons_zero, Option.some.injEq] at hm
      subst hm
      have h1 := h.1
      split at h1
      · rename_i o g i' e1 e2 e3
        simp only [Bool.and_eq_true, Bool.not_eq_true'] at h1
        obtain ⟨⟨k1, k2⟩, k3⟩ := h1
        exact ⟨g, i', by rw [Nat.add_zero, e1, Nat.eq_of_beq_eq_true k1], e2, e3, Nat.eq_of_beq_eq_true k2, Nat.ne_of_beq_eq_false k3⟩
      · cases h1
    | succ m =>
      have := fieldsOk_spec l (j + 1) h.2 m f (by simpa using hm)
      rwa [show j + 1 + m = j + (m + 1) from by omega] at this

theorem zeroOk_spec {i : TypeInfo} {ces : List CC} (h : zeroOk i ces = true) : ∃ z, i.zero = some z ∧ zerosB ces z.cells.toList = true := by
  unfold zeroOk at h
  split at h
  · rename_i z hz; exact ⟨z, hz, h⟩
  · cases h

theorem tiB_ok {P : Program} {t : TypeId} : ∀ {ti : TI}, tiB P t ti = true → TIOk P t ti
  | .sc c, h => by
    simp only [tiB] at h
    split at h
    · rename_i d i e1 e2
      simp only [Bool.and_eq_true, Bool.not_eq_true'] at h
      obtain ⟨⟨⟨h1, h2⟩, h3⟩, h4⟩ := h
      obtain ⟨z, z1, z2⟩ := zeroOk_spec h3
      exact ⟨d, i, z, e1, h1, e2, Nat.eq_of_beq_eq_true h2, z1, z2, h4⟩
    · cases h
  | .st fs, h => by
    simp only [tiB] at h
    split at h
    · rename_i pfs i e1 e2
      simp only [Bool.and_eq_true] at h
      obtain ⟨⟨⟨h1, h2⟩, h3⟩, h4⟩ := h
      split at h3
      · rename_i zs hz
        refine ⟨pfs, i, zs, e1, by rw [← Array.length_toList]; exact Nat.eq_of_beq_eq_true h1, e2, Nat.eq_of_beq_eq_true h2, hz, h3, fun j f hj => ?_⟩
        have := fieldsOk_spec pfs.toList 0 h4 j f (by rw [Array.getElem?_toList]; exact hj)
        rwa [Nat.zero_add] at this
      · cases h3
    · cases h
  | .sl e agg ces by_, h => by
    simp only [tiB] at h
    split at h
    · rename_i e' i i' e1 e2 e3
      simp only [Bool.and_eq_true, Bool.not_eq_true'] at h
      obtain ⟨⟨⟨⟨⟨⟨h1, h2⟩, h3⟩, h4⟩, h5⟩, h6⟩, h7⟩ := h
      obtain ⟨z, z1, z2⟩ := zeroOk_spec h7
      split at h3
      · rename_i hz
        have he := Nat.eq_of_beq_eq_true h1
        subst he
        exact ⟨i, i', z, e1, e2, Nat.eq_of_beq_eq_true h2, hz, e3, Nat.eq_of_beq_eq_true h4, Nat.ne_of_beq_eq_false h5, Nat.eq_of_beq_eq_true h6, z1, z2⟩
      · cases h3
    · cases h
  | .pt, h => trivial
  | .no, h => trivial

def tabOf : List (Nat × TI) → Nat → TI
  | [], _ => .no
  | (k, x) :: r, t => bif Nat.beq k t then x else tabOf r t
theorem tabOf_ok {P : Program} : ∀ {l : List (Nat × TI)}, (l.all fun p => tiB P p.1 p.2) = true → ∀ t, TIOk P t (tabOf l t)
  | [], _, t => trivial
  | (k, x) :: r, h, t => by
    simp only [List.all_cons, Bool.and_eq_true] at h
    unfold tabOf
    cases hk : Nat.beq k t with
    | true =>
      rw [← Nat.eq_of_beq_eq_true hk]
      exact tiB_ok h.1
    | false => exact tabOf_ok h.2 t
def ftOf : List (Nat × FE) → Nat → Option FE
  | [], _ => none
  | (k, x) :: r, t => bif Nat.beq k t then some x else ftOf r t
theorem ftOf_nil {P : Program} : ∀ f e, ftOf [] f = some e → Sat P f e := fun f e h => by cases h
theorem ftOf_cons {P : Program} {k : Nat} {x : FE} {r : List (Nat × FE)} (h : Sat P k x) (hr : ∀ f e, ftOf r f = some e → Sat P f e) : ∀ f e, ftOf ((k, x) :: r) f = some e → Sat P f e := by
  intro f e he
  unfold ftOf at he
  cases hk : Nat.beq k f with
  | true =>
    rw [hk] at he
    simp only [cond_true, Option.some.injEq] at he
    subst he
    rw [← Nat.eq_of_beq_eq_true hk]; exact h
  | false => rw [hk] at he; exact hr f e he
/-- Code's parts. -/
def Code.l : Code → Code
  | .seq a _ => a
  | .cond _ a _ => a
  | .block _ c => c
  | .loop c => c
  | c => c
def Code.r : Code → Code
  | .seq _ b => b
  | .cond _ _ b => b
  | c => c
def bodyOf (f : Func) : Code := match f.body with | some c => c | none => .skip
/-- what follows in a sequence -/
noncomputable def sK {R : Type} (τ : TypeId → TI) (ft : FuncId → Option FE) (hint : Nat → Hint) (ord : Nat → List Nat) (n : Nat) (c : Code) (K : Ex → St → Option R) : Ex → St → Option R :=
  Ex.next (fun s => codeK τ ft hint ord c n s K) K
noncomputable def lK {R : Type} (τ : TypeId → TI) (ft : FuncId → Option FE) (hint : Nat → Hint) (ord : Nat → List Nat) (n : Nat) (c : Code) (H : Hint) (m : Nat) (K : Ex → St → Option R) : Ex → St → Option R :=
  Ex.loop H (fun s => loopK (codeK τ ft hint ord c n) H m s K) K
end Go.Proofs.Ai

set_option linter.unusedVariables false
set_option linter.constructorNameAsVariable false
set_option linter.unusedSimpArgs false
namespace Go.Proofs.Ai
open Go.RowKit

/-! ### 25. Families: sizes, copies, equality -/
mutual
def smallD : (c : CT) → c.den → Bool
  | .l cs, xs => decide ((els xs).length ≤ 1048576) && (els xs).all fun x => smallL cs x
  | .i _, _ => true
  | .any _, _ => true
  | .one, _ => true
  | .ptr cs, x => smallL cs x
  | .clo _ cs, x => smallL cs x
  | .b, _ => true
  | .s, _ => true
def smallL : (cs : List CT) → CT.denL cs → Bool
  | [], _ => true
  | [c], x => smallD c x
  | c :: d :: cs, x => smallD c x.1 && smallL (d :: cs) x.2
end
mutual
def costD : (c : CT) → c.den → Nat
  | .l cs, xs => (els xs).length + ((els xs).map fun x => costL cs x).sum
  | .i _, _ => 0
  | .any _, _ => 0
  | .one, _ => 0
  | .ptr _, _ => 0
  | .clo _ _, _ => 0
  | .b, _ => 0
  | .s, _ => 0
def costL : (cs : List CT) → CT.denL cs → Nat
  | [], _ => 0
  | [c], x => costD c x
  | c :: d :: cs, x => costD c x.1 + costL (d :: cs) x.2
end
def gto (cs : List CT) (x : CT.denL cs) : Option (CT.denL cs) := bif smallL cs x then some x else none
def szR (c : Nat) (l : Int) : Int := bif decide ((c : Int) ≤ l) then l - c else -1
def szIn (l : Int) : Bool := decide (0 ≤ l) && decide (l ≤ 1048576)
def gsz (cs : List CT) (x : CT.denL cs × Int) : Option Int := bif szIn x.2 then some (szR (costL cs x.1) x.2) else none
noncomputable def eqb {α : Type} (a b : α) : Bool := @decide (a = b) (Classical.propDecidable _)
theorem eqb_true {α : Type} {a b : α} : eqb a b = true ↔ a = b := by unfold eqb; simp
theorem eqb_self {α : Type} (a : α) : eqb a a = true := eqb_true.2 rfl
theorem eqb_ne {α : Type} {a b : α} (h : a ≠ b) : eqb a b = false := by
  cases hb : eqb a b with
  | false => rfl
  | true => exact (h (eqb_true.1 hb)).elim
theorem eqb_iff {α β : Type} {a b : α} {c d : β} (h : a = b ↔ c = d) : eqb a b = eqb c d := by
  by_cases e : a = b
  · rw [eqb_true.2 e, eqb_true.2 (h.1 e)]
  · rw [eqb_ne e, eqb_ne (fun e' => e (h.2 e'))]
theorem bne_eqb {α : Type} [DecidableEq α] (x y : α) : (x != y) = !(eqb x y) := by
  by_cases e : x = y
  · subst e; rw [eqb_self]; simp
  · rw [eqb_ne e]; simpa using e

theorem wrap_succ {i : Int} (h0 : 0 ≤ i) (h1 : i < 9223372036854775807) : IntKind.wrap .i64 (i + 1) = i + 1 := by
  simp [IntKind.wrap, IntKind.signed, IntKind.bits]; omega
theorem wrap_id {i : Int} (h0 : -9223372036854775808 ≤ i) (h1 : i ≤ 9223372036854775807) : IntKind.wrap .i64 i = i := by
  simp [IntKind.wrap, IntKind.signed, IntKind.bits]; omega

/-! copies -/
theorem gto_some {cs : List CT} {x y : CT.denL cs} (h : gto cs x = some y) : smallL cs x = true ∧ y = x := by
  unfold gto at h
  cases hs : smallL cs x with
  | false => rw [hs] at h; cases h
  | true => rw [hs] at h; simp only [cond_true, Option.some.injEq] at h; exact ⟨rfl, h.symm⟩
theorem gto_ok {cs : List CT} {x : CT.denL cs} (h : smallL cs x = true) : gto cs x = some x := by unfold gto; rw [h]; rfl
theorem small_l {cs : List CT} {xs : List (CT.denL cs)} (h : smallL [.l cs] xs = true) : xs.length ≤ 1048576 ∧ ∀ x ∈ xs, smallL cs x = true := by
  have h' : (decide (xs.length ≤ 1048576) && xs.all fun x => smallL cs x) = true := h
  simpa only [Bool.and_eq_true, decide_eq_true_eq, List.all_eq_true] using h'

theorem toLoop {α β : Type} (d : α) (F : Nat → List α → Int → List α → Option β) (E : List α → Option β) (g : α → Option α)
    (step : ∀ m x i y, F (m + 1) x i y = bif decide (i < (x.length : Int)) then (bif decide (0 ≤ i) && decide (i < (x.length : Int)) then ((g (x.getD i.toNat d)).bind fun z => bif decide (0 ≤ i) && decide (i < (y.length : Int)) then F m x (IntKind.wrap .i64 (i + 1)) (y.set i.toNat z) else none) else none) else E y)
    (xs : List α) (hg : ∀ x ∈ xs, g x = some x) (hl : xs.length < 9223372036854775807) :
    ∀ (m i : Nat) (ys : List α), i ≤ xs.length → ys.length = xs.length → ys.take i = xs.take i → xs.length - i < m → F m xs i ys = E xs
  | 0, i, ys, _, _, _, hm => by omega
  | m + 1, i, ys, hi, hy, ht, hm => by
    rw [step]
    by_cases hlt : i < xs.length
    · have h1 : decide ((i : Int) < (xs.length : Int)) = true := decide_eq_true (by omega)
      have h2 : decide ((0 : Int) ≤ (i : Int)) = true := decide_eq_true (by omega)
      have h3 : decide ((i : Int) < (ys.length : Int)) = true := decide_eq_true (by omega)
      have hn : (i : Int).toNat = i := rfl
      have hget : xs.getD i d = xs[i] := by rw [List.getD_eq_getElem?_getD, List.getElem?_eq_getElem hlt]; rfl
      rw [h1, h2, h3, hn, hget, hg _ (List.getElem_mem hlt), wrap_succ (by omega) (by omega)]
      simp only [cond_true, Bool.and_self, Option.bind_some]
      have := toLoop d F E g step xs hg hl m (i + 1) (ys.set i xs[i]) (by omega) (by simpa using hy) ?_ (by omega)
      · rw [← this]; congr 1
      · rw [List.take_succ_eq_append_getElem (by simpa using (by omega : i < ys.length)), List.take_succ_eq_append_getElem hlt]
        rw [List.take_set_of_le (Nat.le_refl i), ht]
        simp
    · have h1 : decide ((i : Int) < (xs.length : Int)) = false := decide_eq_false (by omega)
      rw [h1]
      simp only [cond_false]
      have e : i = xs.length := by omega
      subst e
      rw [List.take_of_length_le (by omega), List.take_of_length_le (Nat.le_refl _)] at ht
      rw [ht]

/-! sizes -/
theorem gsz_some {cs : List CT} {x : CT.denL cs} {l y : Int} (h : gsz cs (x, l) = some y) : 0 ≤ l ∧ l ≤ 1048576 ∧ y = szR (costL cs x) l := by
  unfold gsz at h
  cases hs : szIn l with
  | false => rw [hs] at h; cases h
  | true =>
    rw [hs] at h
    simp only [cond_true, Option.some.injEq] at h
    simp only [szIn, Bool.and_eq_true, decide_eq_true_eq] at hs
    exact ⟨hs.1, hs.2, h.symm⟩
theorem gsz_ok {cs : List CT} {x : CT.denL cs} {l : Int} (h0 : 0 ≤ l) (h1 : l ≤ 1048576) : gsz cs (x, l) = some (szR (costL cs x) l) := by
  have : szIn l = true := by simp [szIn, h0, h1]
  unfold gsz
  simp only [this, cond_true]
theorem szR_in {c : Nat} {l : Int} (h1 : l ≤ 1048576) (h : ¬ szR c l < 0) : 0 ≤ szR c l ∧ szR c l ≤ 1048576 ∧ (c : Int) ≤ l ∧ szR c l = l - c := by
  unfold szR at *
  by_cases hc : (c : Int) ≤ l
  · have e : decide ((c : Int) ≤ l) = true := decide_eq_true hc
    rw [e] at h ⊢
    simp only [cond_true] at h ⊢
    exact ⟨by omega, by omega, hc, trivial⟩
  · have e : decide ((c : Int) ≤ l) = false := decide_eq_false hc
    rw [e] at h
    simp at h
theorem szR_add {c d : Nat} {l : Int} (hc : (c : Int) ≤ l) : szR d (l - c) = szR (c + d) l := by
  unfold szR
  by_cases h : ((c + d : Nat) : Int) ≤ l
  · have h' : (d : Int) ≤ l - c := by omega
    simp only [h, h', decide_true, cond_true]; omega
  · have h' : ¬ (d : Int) ≤ l - c := by omega
    simp only [h, h', decide_false, cond_false]
theorem szR_neg {c d : Nat} {l : Int} (h0 : 0 ≤ l) (h : szR c l < 0) : szR (c + d) l = -1 := by
  unfold szR at *
  by_cases hc : (c : Int) ≤ l
  · simp only [hc, decide_true, cond_true] at h; omega
  · have h' : ¬ ((c + d : Nat) : Int) ≤ l := by omega
    simp only [h', decide_false, cond_false]
/-- one part after another -/
theorem szSeq {β : Type} {cs : List CT} {x : CT.denL cs} {l : Int} {k : Int → Option Int} {d : Nat} (h0 : 0 ≤ l) (h1 : l ≤ 1048576) (hk : ∀ l', 0 ≤ l' → l' ≤ 1048576 → k l' = some (szR d l')) :
    ((gsz cs (x, l)).bind fun y => bif decide (y < 0) then some (-1) else k y) = some (szR (costL cs x + d) l) := by
  rw [gsz_ok h0 h1]
  simp only [Option.bind_some]
  by_cases hn : szR (costL cs x) l < 0
  · simp only [hn, decide_true, cond_true]; rw [szR_neg h0 hn]
  · obtain ⟨g1, g2, g3, g4⟩ := szR_in h1 hn
    simp only [hn, decide_false, cond_false]
    rw [hk _ g1 g2, g4, szR_add g3]
theorem szEnd {l : Int} (h0 : 0 ≤ l) : some l = some (szR 0 l) := by simp [szR, h0]
theorem wrap_sub {l : Int} {n : Nat} (h0 : 0 ≤ l) (h1 : l ≤ 1048576) (hn : n ≤ maxLen) : IntKind.wrap .i64 (l - n) = l - n := by
  simp only [maxLen] at hn
  exact wrap_id (by omega) (by omega)
theorem szFlat {β : Type} {cs : List CT} {a : List (CT.denL cs)} {l : Int} (h0 : 0 ≤ l) (h1 : l ≤ 1048576) (hlen : a.length ≤ maxLen) (hz : ∀ x, costL cs x = 0) :
    (bif decide (IntKind.wrap .i64 (l - (a.length : Int)) < 0) then some (-1) else some (IntKind.wrap .i64 (l - (a.length : Int)))) = some (szR (costL [.l cs] a) l) := by
  have hc : costL [.l cs] a = a.length := by
    have : (a.map fun x => costL cs x) = a.map fun _ => 0 := List.map_congr_left (fun x _ => hz x)
    show a.length + (a.map fun x => costL cs x).sum = a.length
    rw [this]
    have : ((a.map fun _ => 0).sum : Nat) = 0 := by clear this hlen; induction a <;> simp_all
    omega
  rw [hc, wrap_sub h0 h1 hlen]
  unfold szR
  by_cases h : (a.length : Int) ≤ l
  · have h' : ¬ l - (a.length : Int) < 0 := by omega
    simp only [h, h', decide_true, decide_false, cond_true, cond_false]
  · have h' : l - (a.length : Int) < 0 := by omega
    simp only [h, h', decide_true, decide_false, cond_true, cond_false]
theorem szLoop {cs : List CT} (d : CT.denL cs) (F : Nat → List (CT.denL cs) → Int → Int → Option Int) (E R : Int → Option Int) (hE : ∀ l, E l = some l) (hR : R (-1) = some (-1))
    (step : ∀ m x l i, F (m + 1) x l i = bif decide (i < (x.length : Int)) then (bif decide (0 ≤ i) && decide (i < (x.length : Int)) then ((gsz cs (x.getD i.toNat d, l)).bind fun y => bif decide (y < 0) then R (-1) else F m x y (IntKind.wrap .i64 (i + 1))) else none) else E l)
    (xs : List (CT.denL cs)) (hl : xs.length < 9223372036854775807) :
    ∀ (m i : Nat) (l : Int), 0 ≤ l → l ≤ 1048576 → i ≤ xs.length → xs.length - i < m → F m xs l i = some (szR (((xs.drop i).map fun x => costL cs x).sum) l)
  | 0, i, l, _, _, _, hm => by omega
  | m + 1, i, l, h0, h1, hi, hm => by
    rw [step]
    by_cases hlt : i < xs.length
    · have e1 : decide ((i : Int) < (xs.length : Int)) = true := decide_eq_true (by omega)
      have e2 : decide ((0 : Int) ≤ (i : Int)) = true := decide_eq_true (by omega)
      have hn : (i : Int).toNat = i := rfl
      have hget : xs.getD i d = xs[i] := by rw [List.getD_eq_getElem?_getD, List.getElem?_eq_getElem hlt]; rfl
      rw [e1, e2, hn, hget, wrap_succ (by omega) (by omega)]
      simp only [cond_true, Bool.and_self, hR]
      have := szSeq (β := Unit) (cs := cs) (x := xs[i]) (l := l) (k := fun y => F m xs y ((i : Int) + 1)) (d := (((xs.drop (i + 1)).map fun x => costL cs x).sum)) h0 h1 (fun l' g0 g1 => by
        have := szLoop d F E R hE hR step xs hl m (i + 1) l' g0 g1 (by omega) (by omega)
        rw [← this]; congr 1)
      rw [this]
      rw [List.drop_eq_getElem_cons hlt, List.map_cons, List.sum_cons]
    · have e1 : decide ((i : Int) < (xs.length : Int)) = false := decide_eq_false (by omega)
      rw [e1]
      simp only [cond_false, hE]
      rw [List.drop_eq_nil_of_le (by omega)]
      simpa using szEnd h0
/-- a slice of what has sizes of its own -/
theorem szNest {cs : List CT} {a : List (CT.denL cs)} {l : Int} {T : Int → Option Int} (h0 : 0 ≤ l) (h1 : l ≤ 1048576) (hlen : a.length ≤ maxLen)
    (hT : ∀ l', 0 ≤ l' → l' ≤ 1048576 → (a.length : Int) ≤ 1048576 → T l' = some (szR ((a.map fun x => costL cs x).sum) l')) :
    (bif decide (IntKind.wrap .i64 (l - (a.length : Int)) < 0) then some (-1) else T (IntKind.wrap .i64 (l - (a.length : Int)))) = some (szR (costL [.l cs] a) l) := by
  have hc : costL [.l cs] a = a.length + (a.map fun x => costL cs x).sum := rfl
  rw [hc, wrap_sub h0 h1 hlen]
  by_cases h : (a.length : Int) ≤ l
  · have h' : ¬ l - (a.length : Int) < 0 := by omega
    simp only [h', decide_false, cond_false]
    rw [hT _ (by omega) (by omega) (by omega), szR_add h]
  · have h' : l - (a.length : Int) < 0 := by omega
    simp only [h', decide_true, cond_true]
    rw [szR_neg h0]
    unfold szR
    simp [h]

/-! equality -/
theorem eqS {t : Option Bool} {α β γ : Type} {x y : α} {u v : β} {p q : γ} (ht : t = some (eqb u v)) (h : p = q ↔ x = y ∧ u = v) : (bif !(eqb x y) then some false else t) = some (eqb p q) := by
  by_cases e : x = y
  · rw [eqb_true.2 e, ht]
    simp only [Bool.not_true, cond_false]
    rw [eqb_iff (h.trans ⟨fun z => z.2, fun z => ⟨e, z⟩⟩)]
  · rw [eqb_ne e, eqb_ne (fun z => e (h.1 z).1)]; rfl
theorem eqT : some true = some (eqb () ()) := by rw [eqb_self]
theorem eqLoop {α : Type} (d : α) (ne : α → α → Bool) (hne : ∀ x y, ne x y = !(eqb x y)) (F : Nat → List α → List α → Int → Option Bool) (E R : Option Bool) (hE : E = some true) (hR : R = some false)
    (step : ∀ m a b i, F (m + 1) a b i = bif decide (i < (a.length : Int)) then (bif decide (0 ≤ i) && decide (i < (a.length : Int)) then (bif decide (0 ≤ i) && decide (i < (b.length : Int)) then (bif ne (a.getD i.toNat d) (b.getD i.toNat d) then R else F m a b (IntKind.wrap .i64 (i + 1))) else none) else none) else E)
    (as bs : List α) (hab : as.length = bs.length) (hl : as.length ≤ maxLen) :
    ∀ (m i : Nat), i ≤ as.length → as.length - i < m → F m as bs i = some (eqb (as.drop i) (bs.drop i))
  | 0, i, _, hm => by omega
  | m + 1, i, hi, hm => by
    rw [step]
    by_cases hlt : i < as.length
    · simp only [maxLen] at hl
      have e1 : decide ((i : Int) < (as.length : Int)) = true := decide_eq_true (by omega)
      have e2 : decide ((0 : Int) ≤ (i : Int)) = true := decide_eq_true (by omega)
      have e3 : decide ((i : Int) < (bs.length : Int)) = true := decide_eq_true (by omega)
      have hn : (i : Int).toNat = i := rfl
      have hlb : i < bs.length := by omega
      have hga : as.getD i d = as[i] := by rw [List.getD_eq_getElem?_getD, List.getElem?_eq_getElem hlt]; rfl
      have hgb : bs.getD i d = bs[i] := by rw [List.getD_eq_getElem?_getD, List.getElem?_eq_getElem hlb]; rfl
      rw [e1, e2, e3, hn, hga, hgb, hne, hR, wrap_succ (by omega) (by omega)]
      simp only [cond_true, Bool.and_self]
      refine eqS (u := as.drop (i + 1)) (v := bs.drop (i + 1)) ?_ ?_
      · have := eqLoop d ne hne F E R hE hR step as bs hab (by simp only [maxLen]; omega) m (i + 1) (by omega) (by omega)
        rw [← this]; congr 1
      · have e1 := List.drop_eq_getElem_cons hlt
        have e2 := List.drop_eq_getElem_cons hlb
        rw [e1, e2, List.cons.injEq]
    · have e1 : decide ((i : Int) < (as.length : Int)) = false := decide_eq_false (by omega)
      rw [e1, hE]
      simp only [cond_false]
      rw [List.drop_eq_nil_of_le (by omega), List.drop_eq_nil_of_le (by omega), eqb_self]
theorem eqHead {α : Type} {a b : List α} {T : Option Bool} (hT : a.length = b.length → T = some (eqb a b)) : (bif ((a.length : Int) != (b.length : Int)) then some false else T) = some (eqb a b) := by
  by_cases h : a.length = b.length
  · have : ((a.length : Int) != (b.length : Int)) = false := by simp [h]
    rw [this, hT h]; rfl
  · have : ((a.length : Int) != (b.length : Int)) = true := by simp; omega
    rw [this, eqb_ne (fun e => h (by rw [e]))]; rfl
/-! as the generated texts want them -/
theorem toLoop0 {α β : Type} (d : α) (F : Nat → List α → Int → List α → Option β) (E : List α → Option β) (g : α → Option α)
    (step : ∀ m x i y, F (m + 1) x i y = bif decide (i < (x.length : Int)) then (bif decide (0 ≤ i) && decide (i < (x.length : Int)) then ((g (x.getD i.toNat d)).bind fun z => bif decide (0 ≤ i) && decide (i < (y.length : Int)) then F m x (IntKind.wrap .i64 (i + 1)) (y.set i.toNat z) else none) else none) else E y)
    (xs ys : List α) (hg : ∀ x ∈ xs, g x = some x) (hl : xs.length ≤ 1048576) (hy : ys.length = xs.length) : F (xs.length + 1) xs 0 ys = E xs :=
  toLoop d F E g step xs hg (by omega) (xs.length + 1) 0 ys (by omega) hy (by simp) (by omega)
theorem mkCond {n b : Nat} (hn : n ≤ 1048576) (hb : b ≤ 134217728) : (decide (0 ≤ (n : Int)) && decide ((n : Int) ≤ (n : Int)) && le47 ((n : Int) * (b : Nat)) && le63 (n : Int)) = true := by
  have h := Nat.mul_le_mul hn hb
  have h3 : le47 ((n : Int) * (b : Nat)) = true := (le47_eq _).trans (decide_eq_true (by rw [← Int.natCast_mul]; omega))
  have h1 : decide (0 ≤ (n : Int)) = true := decide_eq_true (by omega)
  have h2 : decide ((n : Int) ≤ (n : Int)) = true := decide_eq_true (by omega)
  have h4 : le63 (n : Int) = true := (le63_eq _).trans (decide_eq_true (by omega))
  rw [h1, h2, h3, h4]; rfl
theorem bif_true {α : Type} {c : Bool} {x y z : α} (hc : c = true) (h : x = z) : (bif c then x else y) = z := by subst hc; exact h
theorem small_h {c d : CT} {cs : List CT} {x : CT.denL (c :: d :: cs)} (h : smallL (c :: d :: cs) x = true) : smallL [c] x.1 = true := (Bool.and_eq_true_iff.1 (show (smallD c x.1 && smallL (d :: cs) x.2) = true from h)).1
theorem small_t {c d : CT} {cs : List CT} {x : CT.denL (c :: d :: cs)} (h : smallL (c :: d :: cs) x = true) : smallL (d :: cs) x.2 = true := (Bool.and_eq_true_iff.1 (show (smallD c x.1 && smallL (d :: cs) x.2) = true from h)).2
theorem small_c {c d : CT} {cs : List CT} {x : CT.denL [c]} {y : CT.denL (d :: cs)} (h1 : smallL [c] x = true) (h2 : smallL (d :: cs) y = true) : smallL (c :: d :: cs) (x, y) = true := Bool.and_eq_true_iff.2 ⟨h1, h2⟩
theorem szLoop0 {cs : List CT} (d : CT.denL cs) (F : Nat → List (CT.denL cs) → Int → Int → Option Int) (E R : Int → Option Int) (hE : ∀ l, E l = some l) (hR : R (-1) = some (-1))
    (step : ∀ m x l i, F (m + 1) x l i = bif decide (i < (x.length : Int)) then (bif decide (0 ≤ i) && decide (i < (x.length : Int)) then ((gsz cs (x.getD i.toNat d, l)).bind fun y => bif decide (y < 0) then R (-1) else F m x y (IntKind.wrap .i64 (i + 1))) else none) else E l)
    (xs : List (CT.denL cs)) (hl : (xs.length : Int) ≤ 1048576) {l : Int} (h0 : 0 ≤ l) (h1 : l ≤ 1048576) : F (xs.length + 1) xs l 0 = some (szR ((xs.map fun x => costL cs x).sum) l) := by
  have := szLoop d F E R hE hR step xs (by omega) (xs.length + 1) 0 l h0 h1 (by omega) (by omega)
  rwa [List.drop_zero] at this
theorem eqLoop0 {α : Type} (d : α) (ne : α → α → Bool) (hne : ∀ x y, ne x y = !(eqb x y)) (F : Nat → List α → List α → Int → Option Bool) (E R : Option Bool) (hE : E = some true) (hR : R = some false)
    (step : ∀ m a b i, F (m + 1) a b i = bif decide (i < (a.length : Int)) then (bif decide (0 ≤ i) && decide (i < (a.length : Int)) then (bif decide (0 ≤ i) && decide (i < (b.length : Int)) then (bif ne (a.getD i.toNat d) (b.getD i.toNat d) then R else F m a b (IntKind.wrap .i64 (i + 1))) else none) else none) else E)
    (as bs : List α) (hab : as.length = bs.length) (hl : as.length ≤ maxLen) : F (as.length + 1) as bs 0 = some (eqb as bs) := by
  have := eqLoop d ne hne F E R hE hR step as bs hab hl (as.length + 1) 0 (by omega) (by omega)
  rwa [List.drop_zero, List.drop_zero] at this
theorem eqP {t : Option Bool} {α β : Type} {x y : α} {u v : β} (ht : t = some (eqb u v)) : (bif !(eqb x y) then some false else t) = some (eqb (x, u) (y, v)) := eqS ht (by rw [Prod.mk.injEq])
theorem gtoB {cs : List CT} {x : CT.denL cs} {β : Type} {k : CT.denL cs → Option β} {z : Option β} (h : smallL cs x = true) (hk : k x = z) : (gto cs x).bind k = z := by rw [gto_ok h, ← hk]; rfl
theorem eqPn {t : Option Bool} {α β : Type} [DecidableEq α] {x y : α} {u v : β} (ht : t = some (eqb u v)) : (bif (x != y) then some false else t) = some (eqb (x, u) (y, v)) := by rw [bne_eqb]; exact eqP ht
theorem ne_of_dec {s t : String} (h : decide (s = t) = false) : s ≠ t := of_decide_eq_false h
end Go.Proofs.Ai

set_option linter.unusedVariables false
set_option linter.constructorNameAsVariable false
set_option linter.unusedSimpArgs false
namespace Go.Proofs.Ai
open Go.RowKit

/-! ### 27. Marks: every integer behind a slice is written -/
mutual
def cntD : (c : CT) → c.den → Nat
  | .l cs, xs => ((els xs).map fun x => elC cs x).sum
  | .i _, _ => 0
  | .any _, _ => 1
  | .one, _ => 0
  | .ptr _, _ => 0
  | .clo _ _, _ => 0
  | .b, _ => 0
  | .s, _ => 0
def elC : (cs : List CT) → CT.denL cs → Nat
  | [], _ => 0
  | [c], x => cntD c x
  | c :: d :: cs, x => cntD c x.1 + elC (d :: cs) x.2
end
/-- what lies behind a struct's slices -/
def cntS : (cs : List CT) → CT.denL cs → Nat
  | [], _ => 0
  | [.l cs], x => cntD (.l cs) x
  | [_], _ => 0
  | .l cs :: d :: r, x => cntD (.l cs) x.1 + cntS (d :: r) x.2
  | _ :: d :: r, x => cntS (d :: r) x.2
def gmk (cs : List CT) (x : CT.denL cs × Int) : Option Int := bif decide (0 ≤ x.2) && decide (x.2 + (cntS cs x.1 : Nat) ≤ 4611686018427387904) then some (x.2 + (cntS cs x.1 : Nat)) else none
theorem gmk_some {cs : List CT} {x : CT.denL cs} {k y : Int} (h : gmk cs (x, k) = some y) : 0 ≤ k ∧ k + (cntS cs x : Nat) ≤ 4611686018427387904 ∧ y = k + (cntS cs x : Nat) := by
  unfold gmk at h
  cases hs : (decide (0 ≤ k) && decide (k + (cntS cs x : Nat) ≤ 4611686018427387904)) with
  | false => simp only [hs, cond_false] at h; cases h
  | true =>
    simp only [hs, cond_true, Option.some.injEq] at h
    simp only [Bool.and_eq_true, decide_eq_true_eq] at hs
    exact ⟨hs.1, hs.2, h.symm⟩
theorem gmk_ok {cs : List CT} {x : CT.denL cs} {k : Int} (h0 : 0 ≤ k) (h1 : k + (cntS cs x : Nat) ≤ 4611686018427387904) : gmk cs (x, k) = some (k + (cntS cs x : Nat)) := by
  unfold gmk
  simp only [h0, h1, decide_true, Bool.and_self, cond_true]
theorem gmkB {cs : List CT} {x : CT.denL cs} {c : Nat} {kw kk : Int} {β : Type} {K : Int → Option β} {z : Option β} (hc : cntS cs x = c) (hw : kw = kk) (h0 : 0 ≤ kk) (h1 : kk + (c : Nat) ≤ 4611686018427387904) (hz : K (kk + (c : Nat)) = z) : (gmk cs (x, kw)).bind K = z := by
  subst hw; subst hc
  rw [gmk_ok h0 h1, ← hz]; rfl
theorem mkLoop {cs : List CT} (d : CT.denL cs) (F : Nat → List (CT.denL cs) → Int → Int → Option Int) (E : Int → Option Int) (hE : ∀ k, E k = some k)
    (stop : ∀ m x (k i : Int), ¬ i < (x.length : Int) → F (m + 1) x k i = E k)
    (step : ∀ m x (k i : Int), 0 ≤ i → i < (x.length : Int) → (x.length : Int) ≤ 9223372036854775807 → 0 ≤ k → k + (elC cs (x.getD i.toNat d) : Nat) ≤ 4611686018427387904 → F (m + 1) x k i = F m x (k + (elC cs (x.getD i.toNat d) : Nat)) (i + 1))
    (xs : List (CT.denL cs)) (hl : xs.length ≤ maxLen) :
    ∀ (m i : Nat) (k : Int), 0 ≤ k → i ≤ xs.length → xs.length - i < m → k + (((xs.drop i).map fun x => elC cs x).sum : Nat) ≤ 4611686018427387904 → F m xs k i = some (k + (((xs.drop i).map fun x => elC cs x).sum : Nat))
  | 0, i, k, _, _, hm, _ => by omega
  | m + 1, i, k, h0, hi, hm, hk => by
    by_cases hlt : i < xs.length
    · have hget : xs.getD i d = xs[i] := by rw [List.getD_eq_getElem?_getD, List.getElem?_eq_getElem hlt]; rfl
      have hd := List.drop_eq_getElem_cons hlt
      rw [hd, List.map_cons, List.sum_cons] at hk ⊢
      have hs := step m xs k i (by omega) (by omega) (by simp only [maxLen] at hl; omega) h0 (by show k + (elC cs (xs.getD i d) : Nat) ≤ _; rw [hget]; omega)
      rw [hs]
      show F m xs (k + (elC cs (xs.getD i d) : Nat)) ((i : Int) + 1) = _
      rw [hget]
      have := mkLoop d F E hE stop step xs hl m (i + 1) (k + (elC cs xs[i] : Nat)) (by omega) (by omega) (by omega) (by omega)
      rw [show ((i : Int) + 1) = ((i + 1 : Nat) : Int) from rfl, this]
      congr 1
      omega
    · rw [stop m xs k i (by omega), hE]
      have e : xs.drop i = [] := List.drop_eq_nil_of_le (by omega)
      rw [e]
      simp
theorem mkLoop0 {cs : List CT} (d : CT.denL cs) (F : Nat → List (CT.denL cs) → Int → Int → Option Int) (E : Int → Option Int) (hE : ∀ k, E k = some k)
    (stop : ∀ m x (k i : Int), ¬ i < (x.length : Int) → F (m + 1) x k i = E k)
    (step : ∀ m x (k i : Int), 0 ≤ i → i < (x.length : Int) → (x.length : Int) ≤ 9223372036854775807 → 0 ≤ k → k + (elC cs (x.getD i.toNat d) : Nat) ≤ 4611686018427387904 → F (m + 1) x k i = F m x (k + (elC cs (x.getD i.toNat d) : Nat)) (i + 1))
    (xs : List (CT.denL cs)) (hl : xs.length ≤ maxLen) (k : Int) (h0 : 0 ≤ k) (hk : k + (cntS [.l cs] xs : Nat) ≤ 4611686018427387904) : F (xs.length + 1) xs k 0 = some (k + (cntS [.l cs] xs : Nat)) := by
  have := mkLoop d F E hE stop step xs hl (xs.length + 1) 0 k h0 (by omega) (by omega) (by rw [List.drop_zero]; exact hk)
  rw [List.drop_zero] at this
  exact this
theorem bif_false {α : Type} {c : Bool} {x y z : α} (hc : c = false) (h : y = z) : (bif c then x else y) = z := by subst hc; exact h
theorem in2 {i n : Int} (h0 : 0 ≤ i) (h1 : i < n) : (decide (0 ≤ i) && decide (i < n)) = true := by simp [h0, h1]
end Go.Proofs.Ai

set_option linter.unusedVariables false
set_option linter.constructorNameAsVariable false
set_option linter.unusedSimpArgs false
namespace Go.Proofs.Ai
open Go.RowKit

/-! ### 28. Loops that gather -/
def collect {α γ : Type} (g : Int → α → List γ) : Int → List α → List γ
  | _, [] => []
  | i, x :: r => g i x ++ collect g (i + 1) r
theorem colLoop {α β γ : Type} (d : α) (g : Int → α → List γ) (hg : ∀ i x, (g i x).length ≤ 1) (F : Nat → List α → Int → List γ → Option β) (E : List γ → Option β)
    (stop : ∀ m x i o, ¬ i < (x.length : Int) → F (m + 1) x i o = E o)
    (step : ∀ m x i o, 0 ≤ i → i < (x.length : Int) → (x.length : Int) ≤ 1048576 → (o.length : Int) ≤ i → F (m + 1) x i o = F m x (i + 1) (o ++ g i (x.getD i.toNat d)))
    (xs : List α) (hl : xs.length ≤ 1048576) : ∀ (m i : Nat) (o : List γ), i ≤ xs.length → o.length ≤ i → xs.length - i < m → F m xs i o = E (o ++ collect g i (xs.drop i))
  | 0, i, o, _, _, hm => by omega
  | m + 1, i, o, hi, ho, hm => by
    by_cases hlt : i < xs.length
    · have hget : xs.getD i d = xs[i] := by rw [List.getD_eq_getElem?_getD, List.getElem?_eq_getElem hlt]; rfl
      have hgl := hg i xs[i]
      rw [step m xs i o (by omega) (by omega) (by omega) (by omega)]
      show F m xs ((i : Int) + 1) (o ++ g i (xs.getD i d)) = _
      rw [hget]
      have := colLoop d g hg F E stop step xs hl m (i + 1) (o ++ g i xs[i]) (by omega) (by rw [List.length_append]; omega) (by omega)
      rw [show ((i : Int) + 1) = ((i + 1 : Nat) : Int) from rfl, this, List.drop_eq_getElem_cons hlt]
      simp [collect]
    · rw [stop m xs i o (by omega), List.drop_eq_nil_of_le (by omega)]
      simp [collect]
theorem colLoop0 {α β γ : Type} (d : α) (g : Int → α → List γ) (hg : ∀ i x, (g i x).length ≤ 1) (F : Nat → List α → Int → List γ → Option β) (E : List γ → Option β)
    (stop : ∀ m x i o, ¬ i < (x.length : Int) → F (m + 1) x i o = E o)
    (step : ∀ m x i o, 0 ≤ i → i < (x.length : Int) → (x.length : Int) ≤ 1048576 → (o.length : Int) ≤ i → F (m + 1) x i o = F m x (i + 1) (o ++ g i (x.getD i.toNat d)))
    (xs : List α) (hl : xs.length ≤ 1048576) : F (xs.length + 1) xs 0 [] = E (collect g 0 xs) := by
  have := colLoop d g hg F E stop step xs hl (xs.length + 1) 0 [] (by omega) (by simp) (by omega)
  rw [List.drop_zero, List.nil_append] at this
  exact this
theorem apCond {n b : Nat} {i : Int} (hn : (n : Int) ≤ i) (hi : i < 1048576) (hb : b ≤ 134217728) : (le47 (((n : Int) + ((1 : Nat) : Int)) * (b : Nat)) && le63 ((n : Int) + ((1 : Nat) : Int))) = true := by
  have h := Nat.mul_le_mul (show n + 1 ≤ 1048576 by omega) hb
  have h1 : le47 (((n : Int) + ((1 : Nat) : Int)) * (b : Nat)) = true := (le47_eq _).trans (decide_eq_true (by
    have e : ((n : Int) + ((1 : Nat) : Int)) * (b : Nat) = (((n + 1) * b : Nat) : Int) := by rw [Int.natCast_mul, Int.natCast_add]
    rw [e]; omega))
  have h2 : le63 ((n : Int) + ((1 : Nat) : Int)) = true := (le63_eq _).trans (decide_eq_true (by omega))
  rw [h1, h2]; rfl
theorem collect_filter {α : Type} (p : α → Bool) : ∀ (i : Int) (xs : List α), collect (fun _ x => bif p x then [x] else []) i xs = xs.filter p
  | _, [] => rfl
  | i, x :: r => by
    simp only [collect, collect_filter p (i + 1) r]
    cases hp : p x <;> simp [hp]
end Go.Proofs.Ai

set_option linter.unusedVariables false
namespace Go.Proofs.Ai
open Go.RowKit

/-! ### 29. Trees side by side -/
theorem cond_b {α β : Type} {c : Bool} {a b : Option β} {a' b' : Option α} {D : α → Option β} (h1 : a = a'.bind D) (h2 : b = b'.bind D) : (bif c then a else b) = (bif c then a' else b').bind D := by
  cases c
  · exact h2
  · exact h1
theorem bind_b {α β γ : Type} {x : Option γ} {f : γ → Option β} {g : γ → Option α} {D : α → Option β} (h : ∀ y, f y = (g y).bind D) : x.bind f = (x.bind g).bind D := by
  cases x with
  | none => rfl
  | some y => exact h y
theorem cond_c {α : Type} {c : Bool} {a b a' b' : α} (h1 : a = a') (h2 : b = b') : (bif c then a else b) = bif c then a' else b' := by rw [h1, h2]
theorem bind_c {β γ : Type} {x : Option γ} {f g : γ → Option β} (h : ∀ y, f y = g y) : x.bind f = x.bind g := by
  cases x with
  | none => rfl
  | some y => exact h y
end Go.Proofs.Ai

set_option linter.unusedVariables false
set_option linter.unusedSimpArgs false
namespace Go.Proofs.Ai
open Go.RowKit

/-! ### 30. Integers are forgotten; how many there are -/
mutual
def CT.er : CT → CT
  | .i k => .any k
  | .l cs => .l (CT.erL cs)
  | .any k => .any k
  | .one => .one
  | .b => .b
  | .s => .s
  | .ptr cs => .ptr cs
  | .clo n cs => .clo n cs
def CT.erL : List CT → List CT
  | [] => []
  | c :: cs => CT.er c :: CT.erL cs
end
theorem CT.erL_length : ∀ (cs : List CT), (CT.erL cs).length = cs.length
  | [] => by simp [CT.erL]
  | c :: cs => by simp [CT.erL, CT.erL_length cs]
mutual
def erD : (c : CT) → c.den → (c.er).den
  | .i k, _ => (show (CT.any k).den from ())
  | .l cs, xs => (show (CT.l (CT.erL cs)).den from (els xs).map fun x => erDL cs x)
  | .any _, x => x
  | .one, x => x
  | .b, x => x
  | .s, x => x
  | .ptr _, x => x
  | .clo _ _, x => x
def erDL : (cs : List CT) → CT.denL cs → CT.denL (CT.erL cs)
  | [], _ => ()
  | c :: cs, x => cons (c := c.er) (cs := CT.erL cs) (erD c (hd x)) (erDL cs (tl x))
end
theorem erL_cons (c : CT) (cs : List CT) : CT.erL (c :: cs) = c.er :: CT.erL cs := by rw [CT.erL]
mutual
theorem Rep_er {w : World} {F : Nat → Prop} : (c : CT) → (x : c.den) → (u : Value) → Rep w F c x u → Rep w F c.er (erD c x) u
  | .i k, n, u, h => by
    unfold Rep at h
    show Rep w F (.any k) () u
    exact ⟨n, h.1, h.2⟩
  | .l cs, xs, u, h => by
    unfold Rep at h
    obtain ⟨a, cap, h1, h2, h3, h4, h5⟩ := h
    show Rep w F (.l (CT.erL cs)) (((els xs).map fun x => erDL cs x) : List (CT.denL (CT.erL cs))) u
    refine ⟨a, cap, ?_, ?_, h3, h4, fun hne => ?_⟩
    · rw [h1]
      show Value.slice a _ cap = .slice a (List.map _ (els xs)).length cap
      rw [List.length_map]
    · show (List.map _ (els xs)).length ≤ cap
      rw [List.length_map]; exact h2
    · obtain ⟨b, off, e1, e2, e3⟩ := h5 (fun e => hne (by show List.map _ (els xs) = []; rw [e]; rfl))
      refine ⟨b, off, e1, e2, fun i y hi => ?_⟩
      have hi' : ((els xs).map fun x => erDL cs x)[i]? = some y := hi
      rw [List.getElem?_map] at hi'
      cases hx : (els xs)[i]? with
      | none => rw [hx] at hi'; simp at hi'
      | some z =>
        rw [hx] at hi'
        simp only [Option.map_some, Option.some.injEq] at hi'
        rw [← hi', CT.erL_length]
        exact RepL_er cs z b _ (e3 i z hx)
  | .any _, x, u, h => h
  | .one, x, u, h => h
  | .b, x, u, h => h
  | .s, x, u, h => h
  | .ptr _, x, u, h => h
  | .clo _ _, x, u, h => h
theorem RepL_er {w : World} {F : Nat → Prop} : (cs : List CT) → (x : CT.denL cs) → (b o : Nat) → RepL w F cs x b o → RepL w F (CT.erL cs) (erDL cs x) b o
  | [], x, b, o, h => by exact trivial
  | c :: cs, x, b, o, h => by
    rw [RepL_cons] at h
    obtain ⟨⟨u, h1, h2⟩, h3⟩ := h
    show RepL w F (c.er :: CT.erL cs) (cons (c := c.er) (cs := CT.erL cs) (erD c (hd x)) (erDL cs (tl x))) b o
    rw [RepL_cons, hd_cons, tl_cons]
    exact ⟨⟨u, h1, Rep_er c (hd x) u h2⟩, RepL_er cs (tl x) b (o + 1) h3⟩
end
theorem RepVs_er {w : World} {F : Nat → Prop} : (cs : List CT) → (x : CT.denL cs) → (us : List Value) → RepVs w F cs x us → RepVs w F (CT.erL cs) (erDL cs x) us
  | [], x, us, h => h
  | c :: cs, x, us, h => by
    unfold RepVs at h
    obtain ⟨u, r, e, h1, h2⟩ := h
    show RepVs w F (c.er :: CT.erL cs) (cons (c := c.er) (cs := CT.erL cs) (erD c (hd x)) (erDL cs (tl x))) us
    unfold RepVs
    rw [hd_cons, tl_cons]
    exact ⟨u, r, e, Rep_er c _ u h1, RepVs_er cs _ r h2⟩

/-! at most so many integers to a struct -/
def cI : CT → Nat
  | .i _ => 1
  | .any _ => 1
  | _ => 0
def nI : List CT → Nat
  | [] => 0
  | c :: cs => cI c + nI cs
mutual
def okI (B : Nat) : CT → Bool
  | .l cs => decide (nI cs ≤ B) && okIL B cs
  | .i _ => true
  | .any _ => true
  | .one => true
  | .b => true
  | .s => true
  | .ptr _ => true
  | .clo _ _ => true
def okIL (B : Nat) : List CT → Bool
  | [] => true
  | c :: cs => okI B c && okIL B cs
end
theorem costL_cons {c : CT} {cs : List CT} (x : CT.denL (c :: cs)) : costL (c :: cs) x = costD c (hd x) + costL cs (tl x) := by
  cases cs with
  | nil => simp [costL, hd]
  | cons d cs => simp [costL, hd, tl]
theorem elC_cons {c : CT} {cs : List CT} (x : CT.denL (c :: cs)) : elC (c :: cs) x = cntD c (hd x) + elC cs (tl x) := by
  cases cs with
  | nil => simp [elC, hd]
  | cons d cs => simp [elC, hd, tl]
theorem sum_le {α : Type} (f g : α → Nat) (B n : Nat) : ∀ (l : List α), (∀ x ∈ l, f x ≤ n + B * g x) → (l.map f).sum ≤ n * l.length + B * (l.map g).sum
  | [], _ => by simp
  | x :: r, h => by
    have h1 := h x (by simp)
    have h2 := sum_le f g B n r (fun y hy => h y (List.mem_cons_of_mem _ hy))
    simp only [List.map_cons, List.sum_cons, List.length_cons, Nat.mul_add, Nat.mul_one]
    omega
mutual
theorem cntD_le (B : Nat) : (c : CT) → (x : c.den) → okI B c = true → cntD c.er (erD c x) ≤ cI c + B * costD c x
  | .i k, n, _ => by show cntD (.any k) () ≤ _; simp [cntD, cI]
  | .any k, n, _ => by show cntD (.any k) n ≤ _; simp [cntD, cI]
  | .one, n, _ => by show cntD .one n ≤ _; simp [cntD]
  | .b, n, _ => by show cntD .b n ≤ _; simp [cntD]
  | .s, n, _ => by show cntD .s n ≤ _; simp [cntD]
  | .ptr cs, n, _ => by show cntD (.ptr cs) n ≤ _; simp [cntD]
  | .clo m cs, n, _ => by show cntD (.clo m cs) n ≤ _; simp [cntD]
  | .l cs, xs, h => by
    unfold okI at h
    simp only [Bool.and_eq_true, decide_eq_true_eq] at h
    show ((((els xs).map fun x => erDL cs x)).map fun x => elC (CT.erL cs) x).sum ≤ 0 + B * ((els xs).length + ((els xs).map fun x => costL cs x).sum)
    rw [List.map_map]
    have := sum_le ((fun x => elC (CT.erL cs) x) ∘ fun x => erDL cs x) (fun x => costL cs x) B (nI cs) (els xs) (fun x _ => elC_le B cs x h.2)
    have h2 := Nat.mul_le_mul_right (els xs).length h.1
    rw [Nat.mul_add]
    omega
theorem elC_le (B : Nat) : (cs : List CT) → (x : CT.denL cs) → okIL B cs = true → elC (CT.erL cs) (erDL cs x) ≤ nI cs + B * costL cs x
  | [], x, _ => by show elC [] () ≤ _; simp [elC]
  | c :: cs, x, h => by
    unfold okIL at h
    simp only [Bool.and_eq_true] at h
    show elC (c.er :: CT.erL cs) (cons (c := c.er) (cs := CT.erL cs) (erD c (hd x)) (erDL cs (tl x))) ≤ _
    rw [elC_cons, hd_cons, tl_cons, costL_cons]
    have h1 := cntD_le B c (hd x) h.1
    have h2 := elC_le B cs (tl x) h.2
    unfold nI
    rw [Nat.mul_add]
    omega
end
theorem cntS_le' : (cs : List CT) → (x : CT.denL cs) → cntS cs x ≤ elC cs x
  | [], x => by simp [cntS]
  | [c], x => by cases c <;> simp [cntS, elC]
  | c :: d :: r, x => by
    have ih := cntS_le' (d :: r) x.2
    cases c <;> simp [cntS, elC] <;> omega
theorem cntS_le (B : Nat) (cs : List CT) (x : CT.denL cs) (h : okIL B cs = true) : cntS (CT.erL cs) (erDL cs x) ≤ nI cs + B * costL cs x :=
  Nat.le_trans (cntS_le' _ _) (elC_le B cs x h)

/-! what costs little is small -/
mutual
def noPC : CT → Bool
  | .ptr _ => false
  | .clo _ _ => false
  | .l cs => noPCL cs
  | .i _ => true
  | .any _ => true
  | .one => true
  | .b => true
  | .s => true
def noPCL : List CT → Bool
  | [] => true
  | c :: cs => noPC c && noPCL cs
end
mutual
theorem smallD_of : (c : CT) → (x : c.den) → costD c x ≤ 1048576 → okI 1048576 c = true → noPC c = true → smallD c x = true
  | .i _, _, _, _, _ => by simp [smallD]
  | .any _, _, _, _, _ => by simp [smallD]
  | .one, _, _, _, _ => by simp [smallD]
  | .b, _, _, _, _ => by simp [smallD]
  | .s, _, _, _, _ => by simp [smallD]
  | .ptr _, _, _, _, h => by simp [noPC] at h
  | .clo _ _, _, _, _, h => by simp [noPC] at h
  | .l cs, xs, h, h2, h3 => by
    unfold costD at h
    unfold okI at h2
    unfold noPC at h3
    simp only [Bool.and_eq_true] at h2
    unfold smallD
    simp only [Bool.and_eq_true, decide_eq_true_eq, List.all_eq_true]
    refine ⟨by omega, fun x hx => smallL_of cs x ?_ h2.2 h3⟩
    have : costL cs x ≤ ((els xs).map fun x => costL cs x).sum := by
      clear h h2 h3
      generalize els xs = l at hx
      induction l with
      | nil => simp at hx
      | cons y r ih =>
        rw [List.map_cons, List.sum_cons]
        rcases List.mem_cons.1 hx with e | e
        · rw [e]; omega
        · have := ih e; omega
    omega
theorem smallL_of : (cs : List CT) → (x : CT.denL cs) → costL cs x ≤ 1048576 → okIL 1048576 cs = true → noPCL cs = true → smallL cs x = true
  | [], _, _, _, _ => by simp [smallL]
  | [c], x, h, h2, h3 => by
    unfold costL at h
    simp only [okIL, Bool.and_eq_true] at h2
    simp only [noPCL, Bool.and_eq_true] at h3
    unfold smallL
    exact smallD_of c x h h2.1 h3.1
  | c :: d :: cs, x, h, h2, h3 => by
    unfold costL at h
    unfold okIL at h2
    unfold noPCL at h3
    simp only [Bool.and_eq_true] at h2 h3
    unfold smallL
    rw [smallD_of c x.1 (by omega) h2.1 h3.1, smallL_of (d :: cs) x.2 (by omega) h2.2 h3.2]
    rfl
end
end Go.Proofs.Ai

set_option linter.unusedVariables false
set_option linter.unusedSimpArgs false
namespace Go.Proofs.Ai
open Go.RowKit

/-! ### 31. A function piece by piece -/
def kN : Ex → St → Option St
  | .normal, s => some s
  | _, _ => none
def kR : Ex → St → Option St
  | .ret, s => some s
  | _, _ => none
section
variable {E : Env} {st st1 : St} {a : Act} {w w' : World} {ρ : Rho} {τ : TypeId → TI} {ft : FuncId → Option FE} {hint : Nat → Hint} {ord : Nat → List Nat}

theorem piece {x y : Code} {Q : Exit → Act → World → Prop} {n : Nat} (hτ : ∀ t, TIOk E.P t (τ t)) (her : erOf τ = E.er) (hft : ∀ f e, ft f = some e → Sat E.P f e) (hm : E.P.follows .mixedOrders = true)
    (ho : ordsOk ord x = true) (hd : E.er = true → noDraw x = true) (hQ : ∀ c a w, ¬ Q (.panic c) a w) (hc : Conc E st a w ρ) (he : codeK τ ft hint ord x n st kN = some st1)
    (hy : ∀ a w ρ, Conc E st1 a w ρ → y.wp E.P Q a w) : (Code.seq x y).wp E.P Q a w := by
  refine wp_seq (codeK_ok hτ her hft hm x n st kN _ a w ρ ho hd (fun c a w h => hQ c a w h) (fun e s a w ρ hk hc' => ?_) hc he)
  cases e with
  | normal =>
    simp only [kN, Option.some.injEq] at hk
    subst hk
    exact hy a w ρ hc'
  | exit id => cases hk
  | ret => cases hk
theorem last {x : Code} {Q : Exit → Act → World → Prop} {n : Nat} (hτ : ∀ t, TIOk E.P t (τ t)) (her : erOf τ = E.er) (hft : ∀ f e, ft f = some e → Sat E.P f e) (hm : E.P.follows .mixedOrders = true)
    (ho : ordsOk ord x = true) (hd : E.er = true → noDraw x = true) (hQ : ∀ c a w, ¬ Q (.panic c) a w) (hc : Conc E st a w ρ) (he : codeK τ ft hint ord x n st kR = some st1)
    (hy : ∀ a w ρ, Conc E st1 a w ρ → Q .ret a w) : x.wp E.P Q a w := by
  refine codeK_ok hτ her hft hm x n st kR _ a w ρ ho hd hQ (fun e s a w ρ hk hc' => ?_) hc he
  cases e with
  | ret =>
    simp only [kR, Option.some.injEq] at hk
    subst hk
    exact hy a w ρ hc'
  | exit id => cases hk
  | normal => cases hk
/-- a new beginning: what is held is told of each temporary -/
theorem Conc.anew {P : Program} {F : Nat → Prop} {er : Bool} {tmps : List AV} (hd : a.defers = []) (ht : ConcVs w (Imm ⟨P, w, F, fun _ => False, er⟩ w [] (fun _ => none)) [] (fun _ => none) tmps a.tmps.toList) :
    Conc ⟨P, w, F, fun _ => False, er⟩ ⟨tmps, []⟩ a w (fun _ => none) := by
  refine ⟨ht, hd, ?_, ?_, fun b _ _ => .inl rfl, Nat.le_refl _, rfl, rfl, rfl⟩
  · intro k ab hk; simp [hget] at hk
  · intro k k' ab ab' g c c' hk; simp [hget] at hk
variable {I : Bool → Nat → Prop} {h : Heap}
theorem ConcVs_bad : ∀ (us : List Value), ConcVs w I h ρ (List.replicate us.length .bad) us
  | [] => by simp only [List.length_nil, List.replicate_zero]; unfold ConcVs; trivial
  | u :: us => by
    simp only [List.length_cons, List.replicate_succ]
    unfold ConcVs
    exact ⟨by unfold ConcV; trivial, ConcVs_bad us⟩
theorem ConcVs_set {x : AV} : ∀ {l : List AV} {us : List Value} (i : Nat), ConcVs w I h ρ l us → (∀ u, us[i]? = some u → ConcV w I h ρ x u) → ConcVs w I h ρ (l.set i x) us
  | [], us, i, hl, _ => by simpa using hl
  | y :: l, [], i, hl, _ => by unfold ConcVs at hl; exact hl.elim
  | y :: l, u :: us, 0, hl, hx => by
    unfold ConcVs at hl
    simp only [List.set_cons_zero]
    unfold ConcVs
    exact ⟨hx u (by simp), hl.2⟩
  | y :: l, u :: us, i + 1, hl, hx => by
    unfold ConcVs at hl
    simp only [List.set_cons_succ]
    unfold ConcVs
    exact ⟨hl.1, ConcVs_set i hl.2 (fun v hv => hx v (by simpa using hv))⟩
/-- temporaries of which something is told; of all others nothing -/
def told (n : Nat) : List (Nat × AV) → List AV
  | [] => List.replicate n .bad
  | (i, x) :: r => (told n r).set i x
theorem told_ok {n : Nat} {us : List Value} (hn : us.length = n) : ∀ (L : List (Nat × AV)), (∀ p ∈ L, ∀ u, us[p.1]? = some u → ConcV w I h ρ p.2 u) → ConcVs w I h ρ (told n L) us
  | [], _ => by subst hn; exact ConcVs_bad us
  | (i, x) :: r, hh => ConcVs_set i (told_ok hn r (fun p hp => hh p (List.mem_cons_of_mem _ hp))) (hh (i, x) (by simp))
theorem tmp_get (a : Act) {t : Nat} {u : Value} (hu : a.tmps.toList[t]? = some u) : a.tmps.getD t undef = u := by
  rw [Array.getElem?_toList] at hu
  rw [Array.getD_eq_getD_getElem?, hu]; rfl
/-- a variable's cells, as data -/
theorem Conc.boxed (hc : Conc E st a w ρ) {t k : Nat} {cells : List AV} {cs : List CT} {f : Bool} {x : CT.denL cs} (ht : st.tmps.getD t .bad = .p k 0) (hk : hget st.heap k = some (.box cells)) (hx : toDs cs cells = some (f, x)) :
    ∃ g T cur, a.tmps.getD t undef = .pointer (some ⟨g, 0, none⟩) ∧ (E.base ≤ g ∨ E.own0 g) ∧ w.heap[g]? = some (.cells cur T (0, 0)) ∧ RepL w (Imm E w st.heap ρ f) cs x g 0 := by
  have h1 := hc.get t
  rw [ht] at h1
  unfold ConcV at h1
  obtain ⟨cells', g, c, e1, e2, e3⟩ := h1
  have h2 := hc.blk k _ hk
  obtain ⟨g', c', T, cur, f1, f2, f3, f4⟩ := h2
  rw [e2] at f1
  simp only [Option.some.injEq, Prod.mk.injEq] at f1
  obtain ⟨rfl, rfl⟩ := f1
  refine ⟨g, T, cur, e3, f2, f3, RepVs_L (toDs_ok _ _ _ _ _ f4 hx) (fun j v hj => ?_) (fun _ _ => rfl)⟩
  rw [Nat.zero_add, cell_at f3]
  simpa using hj
end
end Go.Proofs.Ai

set_option linter.unusedVariables false
set_option linter.unusedSimpArgs false
namespace Go.Proofs.Ai
open Go.RowKit

/-! ### 32. More of pieces -/
section
variable {E : Env} {st st1 : St} {a : Act} {w w' : World} {ρ : Rho}
theorem Conc.below (hc : Conc E st a w ρ) (he : E.er = false) (ho : ∀ b, ¬ E.own0 b) : Below E.w0.heap.size E.w0 w :=
  ⟨hc.os, hc.tape, hc.output, hc.size, fun k hk => by
    rcases hc.frm k hk (ho k) with h | ⟨h, _⟩
    · exact h
    · rw [he] at h; cases h⟩
theorem Conc.movedF (hc : Conc E st a w ρ) (ho : ∀ b, ¬ E.own0 b) : Moved E.er E.F E.w0 w :=
  ⟨hc.os, hc.tape, hc.output, hc.size, fun k hk => by
    rcases hc.frm k hk (ho k) with h | h
    · exact .inl h
    · exact .inr h⟩
theorem imm0 {P : Program} {W : World} {F : Nat → Prop} {er : Bool} {b : Nat} (h1 : b < W.heap.size) (h2 : F b) (h3 : er = true → ∃ c t, W.heap[b]? = some (.cells c t (0, 0))) : Imm ⟨P, W, F, fun _ => False, er⟩ W [] (fun _ => none) false b := by
  refine ⟨h1, ?_, ?_, fun _ => .inl h2, ?_⟩
  · rintro ⟨k, ab, c, hk, _⟩; simp [hget] at hk
  · intro h; cases h
  · intro h
    rcases h with h | h
    · exact h3 h
    · cases h
theorem pinned (hc : Conc E st a w ρ) {t : Nat} {v : Value} {x : AV} (ht : st.tmps.getD t .bad = .pn v x) : a.tmps.getD t undef = v := by
  have := hc.get t
  rw [ht] at this
  unfold ConcV at this
  exact this.1
theorem valued (hc : Conc E st a w ρ) {t : Nat} {v : Value} (ht : st.tmps.getD t .bad = .v v) : a.tmps.getD t undef = v := by
  have := hc.get t
  rw [ht] at this
  unfold ConcV at this
  exact this.1
theorem datad (hc : Conc E st a w ρ) {t : Nat} {fr : Bool} {cs : List CT} {xs : List (CT.denL cs)} (ht : st.tmps.getD t .bad = .d fr cs xs) : Rep w (Imm E w st.heap ρ fr) (.l cs) xs (a.tmps.getD t undef) := by
  have := hc.get t
  rw [ht] at this
  unfold ConcV at this
  exact this
theorem Conc.len (hc : Conc E st a w ρ) : a.tmps.toList.length = st.tmps.length := (ConcVs_length hc.tmp).symm
theorem bindS {α β : Type} {x : Option α} {y : α} {f : α → Option β} {z : Option β} (h : x = some y) (hf : f y = z) : x.bind f = z := by rw [h]; exact hf

variable {P : Program} {ops : Array Oper} {rest : List Oper} {o : Oper} {Q : Exit → Act → World → Prop}
theorem wpList_move {x : Operand} (hg : o.guard = none) (hop : o.op = .move x) (h : wpList P ops Q rest (a.put o.dst (a.eval x)) w) : wpList P ops Q (o :: rest) a w := by
  refine wpList_plain hg fun K hK => ?_
  unfold Oper.wp
  simp [execOp, hop, Result.andThen]
  exact hK _ _ h
theorem wpList_assign {x : Operand} (hg : o.guard = none) (hop : o.op = .assign x) (h : wpList P ops Q rest (a.put o.dst (a.eval x)) w) : wpList P ops Q (o :: rest) a w := by
  refine wpList_plain hg fun K hK => ?_
  unfold Oper.wp
  simp [execOp, hop, Result.andThen]
  exact hK _ _ h
theorem wpList_callF {f : FuncId} {args : Array Operand} {argTypes : Array TypeId} {R : Ending → World → Prop} (hg : o.guard = none) (hop : o.op = .call { callee := .value (.func f), args := args, argTypes := argTypes })
    (hs : ∃ fn, P.funcs[f]? = some fn ∧ fn.body.isSome = true ∧ fn.name ≠ "runtime.NumGoroutine") (hc : Calls P f (args.toList.map a.eval).toArray w R) (h : ∀ e w', R e w' → ∃ v, e = .returned v ∧ wpList P ops Q rest (a.put o.dst v) w') : wpList P ops Q (o :: rest) a w := by
  refine wpList_plain hg fun K hK => ?_
  have hrun := run_call P w a o (.func f) args argTypes hop f [] rfl hs
  unfold Oper.wp
  rw [hrun, Oper.upon_enter, List.append_nil]
  refine hc.mono ?_
  intro e w' hr
  obtain ⟨v, rfl, h2⟩ := h e w' hr
  exact hK _ _ h2
theorem wpList_end (h : Q .normal a w) : wpList P ops Q [] a w := h
end
end Go.Proofs.Ai
