/- A general part of the proof: the walker by abstract values and its soundness, for every program; no condition. -/
import Derived.Test.YtjeedadfhoiedaaGreatA3
import Derived.Deep.LoopGhost
set_option linter.unusedVariables false
set_option linter.constructorNameAsVariable false
set_option linter.unusedSimpArgs false
namespace Go.Proofs.Ai
open Go.RowKit

/-! ### 19. Contracts -/
def RepP (w : World) (F : Nat → Prop) : (p : Bool × List CT) → CT.denL p.2 → Value → Prop
  | (true, cs), x, u => ∃ us : List Value, u = .agg us.toArray ∧ RepVs w F cs x us
  | (false, cs), x, u => RepVs w F cs x [u]
def ArgsOk (w : World) (F : Nat → Prop) : (ps : List (Bool × List CT)) → CT.denP ps → List Value → Prop
  | [], _, us => us = []
  | p :: ps, x, us => ∃ u r, us = u :: r ∧ RepP w F p (hdP x) u ∧ ArgsOk w F ps (tlP x) r
def pack : List Value → Value
  | [u] => u
  | us => .tuple us.toArray
def ResOk (w : World) (F : Nat → Prop) (rs : List (Bool × List CT)) (y : CT.denP rs) (v : Value) : Prop :=
  ∃ us, ArgsOk w F rs y us ∧ v = pack us
def ResF (fr : Bool) (w : World) (F : Nat → Prop) (w' : World) (b : Nat) : Prop :=
  (w.heap.size ≤ b ∧ b < w'.heap.size ∧ (fr = true → ∃ c t, w'.heap[b]? = some (.cells c t (0, 0)))) ∨ (fr = false ∧ F b)
/-- What the call may have turned. -/
def Moved (er : Bool) (F : Nat → Prop) (w w' : World) : Prop :=
  w'.os = w.os ∧ w'.tape = w.tape ∧ w'.output = w.output ∧ w.heap.size ≤ w'.heap.size ∧ ∀ b, b < w.heap.size → w'.heap[b]? = w.heap[b]? ∨ (er = true ∧ F b ∧ IntEqO (w.heap[b]?) (w'.heap[b]?))
theorem Moved.below {F : Nat → Prop} {w w' : World} (h : Moved false F w w') : Below w.heap.size w w' :=
  ⟨h.1, h.2.1, h.2.2.1, h.2.2.2.1, fun k hk => by rcases h.2.2.2.2 k hk with h | ⟨h, _⟩; exact h; cases h⟩
theorem Moved.of_below {er : Bool} {F : Nat → Prop} {w w' : World} (h : Below w.heap.size w w') : Moved er F w w' := ⟨h.os, h.tape, h.output, h.size, fun b hb => .inl (h.block b hb)⟩
/-- memory of variables, none of it fixed -/
def Loose (w : World) (F : Nat → Prop) : Prop := ∀ b, F b → ∃ c t, w.heap[b]? = some (.cells c t (0, 0))
/-- The function does what the entry says. -/
def Sat (P : Program) (f : FuncId) (E : FE) : Prop :=
  (∃ fn, P.funcs[f]? = some fn ∧ fn.body.isSome = true ∧ fn.name ≠ "runtime.NumGoroutine") ∧
  ∀ (x : CT.denP E.ps) (y : CT.denP E.rs), E.φ x = some y → ∀ (w : World) (F : Nat → Prop) (us : List Value), (∀ b, F b → b < w.heap.size) → (E.er = true → Loose w F) → ArgsOk w F E.ps x us →
    Calls P f us.toArray w fun e w' => ∃ v, e = .returned v ∧ Moved E.er F w w' ∧ ResOk w' (ResF E.fr w F w') E.rs y v

section
variable {E : Env} {P : Program} {st st' : St} {a : Act} {w w' : World} {h h' : Heap} {ρ ρ' : Rho} {I : Bool → Nat → Prop} {τ : TypeId → TI}

theorem hdP_consP {p : Bool × List CT} {ps : List (Bool × List CT)} (x : CT.denL p.2) (y : CT.denP ps) : hdP (consP x y) = x := by cases ps <;> rfl
theorem tlP_consP {p : Bool × List CT} {ps : List (Bool × List CT)} (x : CT.denL p.2) (y : CT.denP ps) : tlP (consP x y) = y := by cases ps <;> rfl

theorem RepP.mono {F F' : Nat → Prop} (h1 : ∀ b, F b → F' b) (h2 : ∀ b, F b → w'.heap[b]? = w.heap[b]?) : ∀ {p : Bool × List CT} {x : CT.denL p.2} {u : Value}, RepP w F p x u → RepP w' F' p x u
  | (true, cs), x, u, ⟨us, e, hr⟩ => ⟨us, e, RepVs_mono h1 h2 hr⟩
  | (false, cs), x, u, hr => RepVs_mono h1 h2 (cs := cs) hr
theorem ArgsOk.mono {F F' : Nat → Prop} (h1 : ∀ b, F b → F' b) (h2 : ∀ b, F b → w'.heap[b]? = w.heap[b]?) : ∀ {ps : List (Bool × List CT)} {x : CT.denP ps} {us : List Value}, ArgsOk w F ps x us → ArgsOk w' F' ps x us
  | [], _, _, hr => hr
  | p :: ps, x, us, ⟨u, r, e, g1, g2⟩ => ⟨u, r, e, RepP.mono h1 h2 g1, ArgsOk.mono h1 h2 g2⟩

theorem marsh_ok : ∀ {ps : List (Bool × List CT)} {l : List AV} {f : Bool} {x : CT.denP ps} {us : List Value}, ConcVs w (Imm E w h ρ) h ρ l us → fitsP ps l = true → marshP ps l = some (f, x) → ArgsOk w (Imm E w h ρ f) ps x us
  | [], [], f, x, us, hl, _, _ => by
    cases us with
    | nil => rfl
    | cons u us => unfold ConcVs at hl; exact hl.elim
  | [], _ :: _, _, _, _, _, hf, _ => by simp [fitsP] at hf
  | _ :: _, [], _, _, _, _, hf, _ => by simp [marshP] at *
  | p :: ps, y :: l, f, x, us, hl, hf, hm => by
    cases us with
    | nil => unfold ConcVs at hl; exact hl.elim
    | cons u us =>
      unfold ConcVs at hl
      simp only [marshP] at hm
      cases h1 : toDs p.2 y.cells with
      | none => rw [h1] at hm; simp at hm
      | some q =>
        cases h2 : marshP ps l with
        | none => rw [h1, h2] at hm; simp at hm
        | some q' =>
          obtain ⟨f1, x1⟩ := q
          obtain ⟨f2, x2⟩ := q'
          rw [h1, h2] at hm
          simp only [Option.some.injEq, Prod.mk.injEq] at hm
          obtain ⟨rfl, rfl⟩ := hm
          have hone := toDs_one h1
          have hf2 : fitsP ps l = true := by
            obtain ⟨b, cs⟩ := p
            cases b <;> cases y <;> simp_all [fitsP]
          refine ⟨u, us, rfl, ?_, ?_⟩
          · rw [hdP_consP]
            refine RepP.mono (w := w) (F := Imm E w h ρ f1) (fun b hb => hb.weaken f2) (fun _ _ => rfl) ?_
            by_cases hg : ∃ l', y = .g l'
            · obtain ⟨l', rfl⟩ := hg
              obtain ⟨b, cs⟩ := p
              cases b with
              | false => simp [fitsP] at hf
              | true =>
                have hy := hl.1
                unfold ConcV at hy
                obtain ⟨vs, rfl, hvs⟩ := hy
                exact ⟨vs, rfl, toDs_ok _ _ _ _ _ hvs h1⟩
            · have hc : y.cells = [y] := by cases y <;> first | rfl | (exfalso; exact hg ⟨_, rfl⟩)
              obtain ⟨b, cs⟩ := p
              have hb : b = false := by
                cases b with
                | false => rfl
                | true => cases y <;> simp [fitsP] at hf <;> (exfalso; exact hg ⟨_, rfl⟩)
              subst hb
              rw [hc] at h1
              refine toDs_ok _ [y] _ _ _ ?_ h1
              unfold ConcVs
              exact ⟨hl.1, by unfold ConcVs; trivial⟩
          · rw [tlP_consP]
            exact ArgsOk.mono (fun b hb => hb.weaken' f1) (fun _ _ => rfl) (marsh_ok hl.2 hf2 h2)

theorem valAV_ok {fr : Bool} : ∀ {p : Bool × List CT} {x : CT.denL p.2} {u : Value}, RepP w (I fr) p x u → ConcV w I h ρ (valAV fr p x) u
  | (true, cs), x, u, ⟨us, e, hr⟩ => by
    show ConcV w I h ρ (.g (cellsAV fr cs x)) u
    unfold ConcV
    exact ⟨us, e, RepVs_cells hr⟩
  | (false, [c]), x, u, hr => by
    show ConcV w I h ρ (cellAV fr c x) u
    have : RepVs w (I fr) [c] x [u] := hr
    have := RepVs_cells (h := h) (ρ := ρ) this
    unfold cellsAV ConcVs at this
    exact this.1
  | (false, []), x, u, hr => by
    show ConcV w I h ρ .bad u
    unfold ConcV; trivial
  | (false, _ :: _ :: _), x, u, hr => by
    show ConcV w I h ρ .bad u
    unfold ConcV; trivial
theorem valsAV_ok {fr : Bool} : ∀ {ps : List (Bool × List CT)} {x : CT.denP ps} {us : List Value}, ArgsOk w (I fr) ps x us → ConcVs w I h ρ (valsAV fr ps x) us
  | [], x, us, hr => by
    have : us = [] := hr
    subst this
    unfold valsAV ConcVs; trivial
  | p :: ps, x, us, ⟨u, r, e, g1, g2⟩ => by
    subst e
    unfold valsAV ConcVs
    exact ⟨valAV_ok g1, valsAV_ok g2⟩
theorem resAV_ok {fr : Bool} {rs : List (Bool × List CT)} {y : CT.denP rs} {v : Value} (hr : ResOk w (I fr) rs y v) : ConcV w I h ρ (resAV fr rs y) v := by
  obtain ⟨us, h1, h2⟩ := hr
  have hl := valsAV_ok (h := h) (ρ := ρ) h1
  have hlen := ConcVs_length hl
  unfold resAV
  revert hl hlen h2
  generalize valsAV fr rs y = L
  intro h2 hl hlen
  match L, us with
  | [a], [u] => subst h2; unfold ConcVs at hl; exact hl.1
  | [], [] => subst h2; show ConcV w I h ρ (.t []) _; unfold ConcV; exact ⟨[], rfl, hl⟩
  | x :: y :: l, u :: v :: us => subst h2; show ConcV w I h ρ (.t _) _; unfold ConcV; exact ⟨_, rfl, hl⟩
  | [], _ :: _ => simp at hlen
  | _ :: _, [] => simp at hlen
  | [_], _ :: _ :: _ => simp at hlen
  | _ :: _ :: _, [_] => simp at hlen

/-! flat results need no memory -/
theorem RepVs_flat {F F' : Nat → Prop} : ∀ {cs : List CT} {x : CT.denL cs} {us : List Value}, cs.all CT.flat = true → RepVs w F cs x us → RepVs w' F' cs x us
  | [], _, us, _, hh => by unfold RepVs at hh ⊢; exact hh
  | c :: cs, x, us, hf, hh => by
    simp only [List.all_cons, Bool.and_eq_true] at hf
    unfold RepVs at hh ⊢
    obtain ⟨u, r, e, g1, g2⟩ := hh
    refine ⟨u, r, e, ?_, RepVs_flat hf.2 g2⟩
    cases c with
    | i k => exact g1
    | any k => exact g1
    | one => exact g1
    | ptr cs => simp [CT.flat] at hf
    | clo fn cs => simp [CT.flat] at hf
    | b => exact g1
    | s => exact g1
    | l cs => simp [CT.flat] at hf
theorem ArgsOk_flat {F F' : Nat → Prop} : ∀ {ps : List (Bool × List CT)} {x : CT.denP ps} {us : List Value}, flatP ps = true → ArgsOk w F ps x us → ArgsOk w' F' ps x us
  | [], _, _, _, hr => hr
  | (b, cs) :: ps, x, us, hf, ⟨u, r, e, g1, g2⟩ => by
    simp only [flatP, List.all_cons, Bool.and_eq_true] at hf
    refine ⟨u, r, e, ?_, ArgsOk_flat hf.2 g2⟩
    cases b with
    | true => obtain ⟨us, e, hr⟩ := g1; exact ⟨us, e, RepVs_flat hf.1 hr⟩
    | false => exact RepVs_flat (cs := cs) hf.1 g1

/-- The world grows. -/
theorem Conc.grow (hc : Conc E st a w ρ) (hb : Below w.heap.size w w') : Conc E st a w' ρ := by
  have hI := Imm.step (E := E) (w := w) (w' := w') (h := st.heap) (h' := st.heap) (ρ := ρ) (ρ' := ρ) hb.size (fun b _ ho => ho) (fun b hlt _ => hb.block b hlt)
  have hk : ∀ n x, hget st.heap n = some x → ρ n = ρ n ∧ ∃ x', hget st.heap n = some x' ∧ SameShape x x' := fun n x hx => ⟨rfl, x, hx, SameShape.refl x⟩
  have := hc.trans (fun _ => true) (fun _ => .bad) st.heap ρ w' hb.size (fun b _ ho => ho) (fun b hlt _ => hb.block b hlt) (fun n x _ hx => hk n x hx) (fun _ _ hf => by simp at hf) ?_ hc.inj hb.os hb.tape hb.output
  · rwa [AV.renL_all] at this
  · intro n x hn
    have := BlockOk.step (keep := fun _ => true) (sub := fun _ => AV.bad) hI (fun n x _ hx => hk n x hx) (fun _ _ hf => by simp at hf) (hc.blk n x hn) rfl (fun g c hr => hb.block g (hc.lt ⟨n, x, c, hn, hr⟩))
    have hid : x.ren (fun _ => true) (fun _ => AV.bad) = x := by cases x <;> simp [AB.ren, AV.renL_all]
    rwa [hid] at this

theorem callK_ok {R : Type} {K : St → Option R} {r : R} {dst : Option Tmp} {FE : FE} {f : FuncId} {args : List Operand} {er : Bool} (her : er = E.er) (hs : Sat E.P f FE) (hc : Conc E st a w ρ) (he : callK er st dst FE args K = some r) :
    ∃ st', K st' = some r ∧ Calls E.P f (args.map a.eval).toArray w fun e w' => ∃ v ρ', e = .returned v ∧ (E.er = false → Below w.heap.size w w') ∧ Conc E st' (a.put dst v) w' ρ' := by
  unfold callK at he
  obtain ⟨ks, hks⟩ : ∃ ks, ks = ownsL ((args.map (evalO st)).flatMap AV.cells) := ⟨_, rfl⟩
  rw [← hks] at he
  simp only at he
  obtain ⟨ρ1, d1, _, _⟩ := hc.freezeAll ks
  obtain ⟨S, hS⟩ : ∃ S, S = st.freezeAll ks := ⟨_, rfl⟩
  rw [← hS] at he d1
  split at he
  · rename_i fl x hfit hm
    split at he
    · rename_i y hy
      have hl : ConcVs w (Imm E w S.heap ρ1) S.heap ρ1 (args.map (evalO S)) (args.map a.eval) := by
        refine ConcVs_of (by simp) (fun i x u hx hu => ?_)
        rw [List.getElem?_map] at hx hu
        cases hi : args[i]? with
        | none => rw [hi] at hx; simp at hx
        | some z =>
          rw [hi] at hx hu
          simp only [Option.map_some, Option.some.injEq] at hx hu
          subst hx; subst hu
          exact d1.eval z
      have hargs := marsh_ok hl hfit hm
      cases hguard : ((er && !(flatP FE.rs)) || (FE.er && !(er && st.noI && ks.isEmpty))) with
      | true => rw [hguard] at he; cases he
      | false =>
        rw [hguard] at he
        simp only [cond_false] at he
        rw [Bool.or_eq_false_iff] at hguard
        obtain ⟨hg1, hg2⟩ := hguard
        refine ⟨_, he, (hs.2 x y hy w _ _ (fun b hb => hb.1) (fun hfe b hb => hb.2.2.2.2 (.inl (by rw [← her]; cases er <;> simp_all))) hargs).mono ?_⟩
        rintro e w' ⟨v, rfl, hmv, hres⟩
        cases hfe : FE.er with
        | true =>
          rw [hfe] at hg2 hmv
          have h2 : er = true ∧ st.noI = true ∧ ks.isEmpty = true := by
            simp only [Bool.true_and, Bool.not_eq_false', Bool.and_eq_true] at hg2
            exact ⟨hg2.1.1, hg2.1.2, hg2.2⟩
          obtain ⟨h2a, h2b, h2c⟩ := h2
          have hks0 : ks = [] := by simpa using h2c
          have h3 : flatP FE.rs = true := by rw [h2a] at hg1; simpa using hg1
          have hE : E.er = true := by rw [← her]; exact h2a
          have hSst : S = st := by rw [hS, hks0]; rfl
          rw [hSst] at hmv d1 hres
          have hg := d1.wrote (w' := w') h2b hE hmv.1 hmv.2.1 hmv.2.2.1 hmv.2.2.2.1 (fun b hb => by
            rcases hmv.2.2.2.2 b hb with h | ⟨_, hF, hq⟩
            · exact .inl h
            · exact .inr ⟨⟨fl, hF⟩, hq⟩)
          refine ⟨v, ρ1, rfl, (fun h => by rw [hE] at h; cases h), ?_⟩
          simp only [h3, Bool.or_true, cond_true]
          refine hg.set dst (resAV_ok ?_)
          obtain ⟨us, g1, g2⟩ := hres
          exact ⟨us, ArgsOk_flat h3 g1, g2⟩
        | false =>
          rw [hfe] at hmv
          have hb := hmv.below
          cases hfl : flatP FE.rs with
          | true =>
            have hg := hc.grow hb
            refine ⟨v, ρ, rfl, (fun _ => hb), ?_⟩
            simp only [Bool.or_true, cond_true]
            refine hg.set dst (resAV_ok ?_)
            obtain ⟨us, g1, g2⟩ := hres
            exact ⟨us, ArgsOk_flat hfl g1, g2⟩
          | false =>
            have hE : E.er = false := by
              rw [hfl] at hg1
              rw [← her]
              simpa using hg1
            cases hfr : FE.fr with
            | true =>
              have hg := hc.grow hb
              refine ⟨v, ρ, rfl, (fun _ => hb), ?_⟩
              simp only [Bool.true_or, cond_true]
              refine hg.set dst (resAV_ok ?_)
              obtain ⟨us, g1, g2⟩ := hres
              refine ⟨us, ArgsOk.mono (fun b hF => ?_) (fun _ _ => rfl) g1, g2⟩
              rw [hfr] at hF
              rcases hF with ⟨g3, g4, g5⟩ | ⟨g3, _⟩
              · refine ⟨g4, fun ho => ?_, fun _ => Nat.le_trans hc.size g3, (fun h => by simp at h), (fun h => g5 rfl)⟩
                have := hc.lt ho
                omega
              · cases g3
            | false =>
              have hg := d1.grow hb
              refine ⟨v, ρ1, rfl, (fun _ => hb), ?_⟩
              simp only [Bool.or_false, cond_false]
              refine hg.set dst (resAV_ok ?_)
              obtain ⟨us, g1, g2⟩ := hres
              refine ⟨us, ArgsOk.mono (fun b hF => ?_) (fun _ _ => rfl) g1, g2⟩
              rcases hF with ⟨g3, g4, _⟩ | ⟨_, g3⟩
              · refine ⟨g4, fun ho => ?_, (fun h => by simp at h), fun _ => .inr (.inl (Nat.le_trans hc.size g3)), (fun h => by rcases h with h | h; rw [hE] at h; cases h; cases h)⟩
                have := d1.lt ho
                omega
              · have hst := Imm.step (E := E) (w := w) (w' := w') (h := S.heap) (h' := S.heap) (ρ := ρ1) (ρ' := ρ1) hb.size (fun b _ ho => ho) (fun b hlt _ => hb.block b hlt)
                have := (hst fl b g3).1.weaken' false
                simpa using this
    · cases he
  · cases he

/-! closures, and pointers to own variables -/
/-- what one may read who is handed anything of ours -/
def Seen (E : Env) (w : World) (h : Heap) (ρ : Rho) (b : Nat) : Prop := b < w.heap.size ∧ ((∃ fr, Imm E w h ρ fr b) ∨ Own h ρ b)
theorem toHs_nil {h : Heap} {l : List AV} : toHs h [] l = nilO l := toHs.eq_1 h l
theorem toHs_none {h : Heap} {c : CT} {cs : List CT} : toHs h (c :: cs) [] = none := by
  cases cs with
  | nil => exact toHs.eq_2 h [] c
  | cons d cs => exact toHs.eq_3 h [] c d cs
theorem toHs_cons {h : Heap} {c : CT} {cs : List CT} {a : AV} {l : List AV} : toHs h (c :: cs) (a :: l) = match toH h c a, toHs h cs l with
    | some (f1, x), some (f2, y) => some (f1 && f2, cons x y)
    | _, _ => none := by
  cases cs with
  | cons d cs =>
    refine (toHs.eq_3 h (a :: l) c d cs).trans ?_
    show pairO (toH h c a) (toHs h (d :: cs) l) = _
    generalize toH h c a = z1
    generalize toHs h (d :: cs) l = z2
    match z1, z2 with
    | none, none => rfl
    | none, some _ => rfl
    | some _, none => rfl
    | some (f, x), some (g, y) => rfl
  | nil =>
    refine (toHs.eq_2 h (a :: l) c).trans ?_
    rw [toHs_nil]
    cases l with
    | cons b l =>
      show none = _
      generalize toH h c a = z
      match z with
      | none => rfl
      | some (f, x) => rfl
    | nil =>
      show toH h c a = _
      generalize toH h c a = z
      match z with
      | none => rfl
      | some (f, x) =>
        show some (f, x) = some (f && true, x)
        rw [Bool.and_true]
theorem toLo_ok (hb : ∀ k ab, hget h k = some ab → BlockOk E w h ρ k ab) {cs : List CT} {x : AV} {fr : Bool} {y : List (CT.denL cs)} {u : Value} (hx : ConcV w (Imm E w h ρ) h ρ x u) (ht : toLo h cs x = some (fr, y)) : Rep w (Seen E w h ρ) (.l cs) y u := by
  unfold toLo at ht
  split at ht
  · rename_i k
    unfold ConcV at hx
    obtain ⟨fr', e, cs', xs, hg, rfl⟩ := hx
    rw [hg] at ht
    simp only at ht
    split at ht
    · rename_i e'
      subst e'
      simp only [Option.some.injEq, Prod.mk.injEq] at ht
      obtain ⟨_, rfl⟩ := ht
      rw [Rep_l]
      rcases hb k _ hg with ⟨e1, e2⟩ | ⟨g, cap, cur, e1, e2, hfr, e3, e4, e5, e6, e7⟩
      · rw [e1]
        subst e2
        exact ⟨none, 0, rfl, Nat.le_refl _, Nat.zero_le _, fun _ => rfl, fun hne => (hne rfl).elim⟩
      · rw [e1]
        refine ⟨some ⟨g, 0, none⟩, cap, rfl, e4, e5, (fun hn => by cases hn), fun _ => ⟨g, 0, rfl, ⟨(Array.getElem?_eq_some_iff.1 e3).1, .inr ⟨k, _, cap, hg, e1⟩⟩, fun i z hi => ?_⟩⟩
        rw [Nat.zero_add]
        exact RepL.mono (fun b hb => ⟨hb.1, .inl ⟨_, hb⟩⟩) (fun _ _ => rfl) _ _ _ _ rfl (e7 i z hi)
    · cases ht
  · exact Rep.mono (fun b hb => ⟨hb.1, .inl ⟨_, hb⟩⟩) (fun _ _ => rfl) _ _ _ (toL_ok hx ht)
mutual
theorem toH_ok (hb : ∀ k ab, hget h k = some ab → BlockOk E w h ρ k ab) : (c : CT) → (x : AV) → (fr : Bool) → (y : c.den) → (u : Value) → ConcV w (Imm E w h ρ) h ρ x u → toH h c x = some (fr, y) → Rep w (Seen E w h ρ) c y u
  | .i k, x, fr, y, u, hx, ht => by rw [toH.eq_1] at ht; exact toI_ok hx ht
  | .any k, x, fr, y, u, hx, ht => by rw [toH.eq_2] at ht; exact toA_ok hx ht
  | .one, x, fr, y, u, hx, ht => by rw [toH.eq_3] at ht; cases ht
  | .b, x, fr, y, u, hx, ht => by rw [toH.eq_4] at ht; exact toB_ok hx ht
  | .s, x, fr, y, u, hx, ht => by rw [toH.eq_5] at ht; exact toS_ok hx ht
  | .l cs, x, fr, y, u, hx, ht => by rw [toH.eq_6] at ht; exact toLo_ok hb hx ht
  | .ptr cs, x, fr, y, u, hx, ht => by
    rw [toH.eq_7] at ht
    cases hoc : ownCells h cs.length x with
    | none =>
      rw [hoc] at ht
      obtain ⟨b, off, e, hI, hr⟩ := toP_ok hx ht
      exact ⟨b, off, e, ⟨hI.1, .inl ⟨_, hI⟩⟩, RepL.mono (fun b hb => ⟨hb.1, .inl ⟨_, hb⟩⟩) (fun _ _ => rfl) _ _ _ _ rfl hr⟩
    | some l =>
      rw [hoc] at ht
      replace ht : toHs h cs l = some (fr, y) := ht
      unfold ownCells at hoc
      split at hoc
      · rename_i k off
        unfold ConcV at hx
        obtain ⟨cells, g, c, hg, hr, rfl⟩ := hx
        rw [hg] at hoc
        simp only [Option.some.injEq] at hoc
        subst hoc
        obtain ⟨g', c', T, cur, e1, e2, e3, e4⟩ := hb k _ hg
        rw [hr] at e1
        simp only [Option.some.injEq, Prod.mk.injEq] at e1
        obtain ⟨rfl, rfl⟩ := e1
        have hl := ConcVs_take cs.length (ConcVs_drop off e4)
        have hv := toHs_ok hb cs _ fr y _ hl ht
        refine ⟨g, off, rfl, ⟨(Array.getElem?_eq_some_iff.1 e3).1, .inr ⟨k, _, c, hg, hr⟩⟩, RepVs_L hv (fun j v hj => ?_) (fun _ _ => rfl)⟩
        rw [cell_at e3]
        rw [List.getElem?_take] at hj
        split at hj
        · rw [List.getElem?_drop] at hj
          simpa using hj
        · cases hj
      · cases hoc
  | .clo fn cs, x, fr, y, u, hx, ht => by
    rw [toH.eq_8] at ht
    cases hcaps : capsOf fn x with
    | none => rw [hcaps] at ht; cases ht
    | some l =>
      rw [hcaps] at ht
      replace ht : toHs h cs l = some (fr, y) := ht
      obtain ⟨us, e, hl⟩ := capsOf_ok hx hcaps
      exact ⟨us, e, RepVs_M.1 (toHs_ok hb cs l fr y us hl ht)⟩
theorem toHs_ok (hb : ∀ k ab, hget h k = some ab → BlockOk E w h ρ k ab) : (cs : List CT) → (l : List AV) → (fr : Bool) → (y : CT.denL cs) → (us : List Value) → ConcVs w (Imm E w h ρ) h ρ l us → toHs h cs l = some (fr, y) → RepVs w (Seen E w h ρ) cs y us
  | [], [], fr, y, us, hl, _ => by
    cases us with
    | nil => unfold RepVs; rfl
    | cons u us => unfold ConcVs at hl; exact hl.elim
  | [], _ :: _, _, _, _, _, ht => by rw [toHs_nil] at ht; cases ht
  | _ :: _, [], _, _, _, _, ht => by rw [toHs_none] at ht; cases ht
  | c :: cs, x :: l, fr, y, us, hl, ht => by
    cases us with
    | nil => unfold ConcVs at hl; exact hl.elim
    | cons u us =>
      unfold ConcVs at hl
      rw [toHs_cons] at ht
      cases h1 : toH h c x with
      | none => rw [h1] at ht; simp at ht
      | some p =>
        cases h2 : toHs h cs l with
        | none => rw [h1, h2] at ht; simp at ht
        | some q =>
          obtain ⟨f1, y1⟩ := p
          obtain ⟨f2, y2⟩ := q
          rw [h1, h2] at ht
          simp only [Option.some.injEq, Prod.mk.injEq] at ht
          obtain ⟨rfl, rfl⟩ := ht
          unfold RepVs
          refine ⟨u, us, rfl, ?_, ?_⟩
          · rw [hd_cons]; exact toH_ok hb c x f1 y1 u hl.1 h1
          · rw [tl_cons]; exact toHs_ok hb cs l f2 y2 us hl.2 h2
end
theorem marshH_ok (hb : ∀ k ab, hget h k = some ab → BlockOk E w h ρ k ab) : ∀ {ps : List (Bool × List CT)} {l : List AV} {x : CT.denP ps} {us : List Value}, ConcVs w (Imm E w h ρ) h ρ l us → fitsP ps l = true → marshH h ps l = some x → ArgsOk w (Seen E w h ρ) ps x us
  | [], [], x, us, hl, _, _ => by
    cases us with
    | nil => rfl
    | cons u us => unfold ConcVs at hl; exact hl.elim
  | [], _ :: _, _, _, _, hf, _ => by simp [fitsP] at hf
  | _ :: _, [], _, _, _, hf, _ => by simp [marshH] at *
  | p :: ps, y :: l, x, us, hl, hf, hm => by
    cases us with
    | nil => unfold ConcVs at hl; exact hl.elim
    | cons u us =>
      unfold ConcVs at hl
      simp only [marshH] at hm
      cases h1 : toHs h p.2 y.cells with
      | none => rw [h1] at hm; simp at hm
      | some q =>
        cases h2 : marshH h ps l with
        | none => rw [h1, h2] at hm; simp at hm
        | some x2 =>
          obtain ⟨f1, x1⟩ := q
          rw [h1, h2] at hm
          simp only [Option.some.injEq] at hm
          subst hm
          have hf2 : fitsP ps l = true := by
            obtain ⟨b, cs⟩ := p
            cases b <;> cases y <;> simp_all [fitsP]
          refine ⟨u, us, rfl, ?_, ?_⟩
          · rw [hdP_consP]
            by_cases hg : ∃ l', y = .g l'
            · obtain ⟨l', rfl⟩ := hg
              obtain ⟨b, cs⟩ := p
              cases b with
              | false => simp [fitsP] at hf
              | true =>
                have hy := hl.1
                unfold ConcV at hy
                obtain ⟨vs, rfl, hvs⟩ := hy
                exact ⟨vs, rfl, toHs_ok hb _ _ _ _ _ hvs h1⟩
            · have hc : y.cells = [y] := by cases y <;> first | rfl | (exfalso; exact hg ⟨_, rfl⟩)
              obtain ⟨b, cs⟩ := p
              have hb' : b = false := by
                cases b with
                | false => rfl
                | true => cases y <;> simp [fitsP] at hf <;> (exfalso; exact hg ⟨_, rfl⟩)
              subst hb'
              rw [hc] at h1
              refine toHs_ok hb _ [y] _ _ _ ?_ h1
              unfold ConcVs
              exact ⟨hl.1, by unfold ConcVs; trivial⟩
          · rw [tlP_consP]
            exact marshH_ok hb hl.2 hf2 h2

theorem callC_ok {R : Type} {K : St → Option R} {r : R} {dst : Option Tmp} {FE : FE} {f : FuncId} {l : List AV} {us : List Value} {er : Bool} (her : er = E.er) (hs : Sat E.P f FE) (hc : Conc E st a w ρ)
    (hl : ConcVs w (Imm E w st.heap ρ) st.heap ρ l us) (he : callC er st dst FE l K = some r) :
    ∃ st', K st' = some r ∧ Calls E.P f us.toArray w fun e w' => ∃ v ρ', e = .returned v ∧ (E.er = false → Below w.heap.size w w') ∧ Conc E st' (a.put dst v) w' ρ' := by
  unfold callC at he
  split at he
  · rename_i x hfit hm
    split at he
    · rename_i y hy
      cases hguard : (er || FE.er || !(FE.fr || flatP FE.rs)) with
      | true => rw [hguard] at he; cases he
      | false =>
        rw [hguard] at he
        simp only [cond_false] at he
        rw [Bool.or_eq_false_iff, Bool.or_eq_false_iff] at hguard
        obtain ⟨⟨hg1, hg2⟩, hg3⟩ := hguard
        have hE : E.er = false := by rw [← her]; exact hg1
        refine ⟨_, he, (hs.2 x y hy w _ _ (fun b hb => hb.1) (fun h => by rw [hg2] at h; cases h) (marshH_ok hc.blk hl hfit hm)).mono ?_⟩
        rintro e w' ⟨v, rfl, hmv, hres⟩
        rw [hg2] at hmv
        have hb := hmv.below
        have hg := hc.grow hb
        refine ⟨v, ρ, rfl, fun _ => hb, hg.set dst (resAV_ok ?_)⟩
        obtain ⟨vs, g1, g2⟩ := hres
        cases hfl : flatP FE.rs with
        | true => exact ⟨vs, ArgsOk_flat hfl g1, g2⟩
        | false =>
          have hfr : FE.fr = true := by rw [hfl] at hg3; simpa using hg3
          refine ⟨vs, ArgsOk.mono (fun b hF => ?_) (fun _ _ => rfl) g1, g2⟩
          rw [hfr] at hF
          rcases hF with ⟨g3, g4, g5⟩ | ⟨g3, _⟩
          · refine ⟨g4, fun ho => ?_, fun _ => Nat.le_trans hc.size g3, (fun h => by rw [hfr] at h; cases h), (fun h => g5 rfl)⟩
            have := hc.lt ho
            omega
          · cases g3
    · cases he
  · cases he
end
end Go.Proofs.Ai

set_option linter.unusedVariables false
set_option linter.constructorNameAsVariable false
set_option linter.unusedSimpArgs false
namespace Go.Proofs.Ai
open Go.RowKit

section
variable {E : Env} {P : Program} {st st' : St} {a : Act} {w w' : World} {h h' : Heap} {ρ ρ' : Rho} {I : Bool → Nat → Prop} {τ : TypeId → TI} {ft : FuncId → Option FE}

/-! ### 20. A region's operations -/
/-- An operation that is wanted is carried out. -/
def Stepped (E : Env) (o : Oper) (a : Act) (w : World) (st' : St) : Prop :=
  (floats o.op = true ∧ ∃ v ρ', (∀ w1, Below w.heap.size w w1 → (execOp a.eval o).run E.P w1 = .ok (.value v) w1) ∧ Conc E st' (a.put o.dst v) w ρ') ∨
  (floats o.op = false ∧ ∀ (K : Act → World → Prop) (Q : Exit → Act → World → Prop),
    (∀ v w' ρ', (E.er = false → growsO o.op = true → Below w.heap.size w w') → Conc E st' (a.put o.dst v) w' ρ' → K (a.put o.dst v) w') → o.wp E.P a w K Q)

theorem Stepped.wp {o : Oper} {K : Act → World → Prop} {Q : Exit → Act → World → Prop} (hs : Stepped E o a w st') (hg : floats o.op = true → growsO o.op = true)
    (hK : ∀ v w' ρ', (E.er = false → growsO o.op = true → Below w.heap.size w w') → Conc E st' (a.put o.dst v) w' ρ' → K (a.put o.dst v) w') : o.wp E.P a w K Q := by
  rcases hs with ⟨_, v, ρ', h1, h2⟩ | ⟨_, h1⟩
  · unfold Oper.wp
    rw [h1 w (Below.refl _ w)]
    exact hK v w ρ' (fun _ _ => Below.refl _ w) h2
  · exact h1 K Q hK

theorem floats_grows {o : Op} (hf : floats o = true) : growsO o = true := by
  cases o <;> simp only [floats, growsO] at hf ⊢ <;> try (cases hf; done)
  rename_i c
  obtain ⟨callee, args, argTypes⟩ := c
  cases callee <;> simp only at hf ⊢ <;> try (cases hf; done)
  exact hf

theorem evals_ok (hc : Conc E st a w ρ) (args : List Operand) : ConcVs w (Imm E w st.heap ρ) st.heap ρ (args.map (evalO st)) (args.map a.eval) := by
  refine ConcVs_of (by simp) (fun i x u hx hu => ?_)
  rw [List.getElem?_map] at hx hu
  cases hi : args[i]? with
  | none => rw [hi] at hx; simp at hx
  | some z =>
    rw [hi] at hx hu
    simp only [Option.map_some, Option.some.injEq] at hx hu
    subst hx; subst hu
    exact hc.eval z
theorem run_call (P : Program) (w : World) (a : Act) (o : Oper) (x : Operand) (args : Array Operand) (argTypes : Array TypeId) (hop : o.op = .call { callee := .value x, args := args, argTypes := argTypes }) (f : FuncId) (caps : List Value)
    (hx : a.eval x = .func (.func f) #[] caps.toArray) (hs : ∃ fn, P.funcs[f]? = some fn ∧ fn.body.isSome = true ∧ fn.name ≠ "runtime.NumGoroutine") :
    (execOp a.eval o).run P w = .ok (.enter f (args.toList.map a.eval ++ caps).toArray) w := by
  obtain ⟨fn, g1, g2, g3⟩ := hs
  obtain ⟨dst, op, type, pos, after, guard⟩ := o
  simp only at hop
  subst hop
  obtain ⟨c0, g2'⟩ := Option.isSome_iff_exists.1 g2
  obtain ⟨args⟩ := args
  simp [execOp, resolve, hx, Deferred.ofValue, invoke, callFunc, g1, g2', g3]

theorem stepK_ok {R : Type} {K : St → Option R} {r : R} (hτ : ∀ t, TIOk E.P t (τ t)) (her : erOf τ = E.er) (hft : ∀ f e, ft f = some e → Sat E.P f e) (hc : Conc E st a w ρ) {o : Oper} (he : stepK τ ft st o K = some r) :
    ∃ st', K st' = some r ∧ Stepped E o a w st' := by
  rw [stepK_eq] at he
  unfold stepK0 at he
  split at he
  · rename_i f args argTypes hop
    split at he
    · rename_i e hfe
      have hs := hft f e hfe
      cases hneed : needC (args.toList.map (evalO st)) with
      | true =>
        rw [hneed] at he
        simp only [cond_true] at he
        obtain ⟨st', h1, h2⟩ := callC_ok her hs hc (evals_ok hc args.toList) he
        refine ⟨st', h1, .inr ⟨by rw [hop]; rfl, fun K Q hK => ?_⟩⟩
        have hrun := run_call E.P w a o (.func f) args argTypes hop f [] rfl hs.1
        unfold Oper.wp
        rw [hrun, Oper.upon_enter]
        rw [List.append_nil]
        refine h2.mono ?_
        rintro e w' ⟨v, ρ', rfl, hb, hcc⟩
        exact hK v w' ρ' (fun he _ => hb he) hcc
      | false =>
      rw [hneed] at he
      simp only [cond_false] at he
      obtain ⟨st', h1, h2⟩ := callK_ok her hs hc he
      refine ⟨st', h1, .inr ⟨by rw [hop]; rfl, fun K Q hK => ?_⟩⟩
      obtain ⟨fn, g1, g2, g3⟩ := hs.1
      have hrun : (execOp a.eval o).run E.P w = .ok (.enter f (args.map a.eval)) w := by
        obtain ⟨dst, op, type, pos, after, guard⟩ := o
        simp only at hop
        subst hop
        obtain ⟨c0, g2'⟩ := Option.isSome_iff_exists.1 g2
        simp [execOp, resolve, Act.eval, Deferred.ofValue, invoke, callFunc, g1, g2', g3]
      unfold Oper.wp
      rw [hrun, Oper.upon_enter]
      have hargs : (args.toList.map a.eval).toArray = args.map a.eval := by rw [← Array.toList_map]
      rw [hargs] at h2
      refine h2.mono ?_
      rintro e w' ⟨v, ρ', rfl, hb, hcc⟩
      exact hK v w' ρ' (fun he _ => hb he) hcc
    · cases he
  · rename_i t args argTypes hop
    split at he
    · rename_i g caps hev
      split at he
      · rename_i e hfe
        have hs := hft g e hfe
        have hx := hc.get t
        rw [hev] at hx
        unfold ConcV at hx
        obtain ⟨cs, hxv, hcs⟩ := hx
        obtain ⟨st', h1, h2⟩ := callC_ok her hs hc (ConcVs_append (evals_ok hc args.toList) hcs) he
        refine ⟨st', h1, .inr ⟨by rw [hop]; rfl, fun K Q hK => ?_⟩⟩
        have hrun := run_call E.P w a o (.tmp t) args argTypes hop g cs hxv hs.1
        unfold Oper.wp
        rw [hrun, Oper.upon_enter]
        refine h2.mono ?_
        rintro e w' ⟨v, ρ', rfl, hb, hcc⟩
        exact hK v w' ρ' (fun he _ => hb he) hcc
      · cases he
    · cases he
  · cases hop : opE τ st o with
    | none => rw [hop] at he; simp at he
    | some p =>
      obtain ⟨c, s⟩ := p
      rw [hop] at he
      simp only at he
      replace he : (bif c then K s else none) = some r := by
        revert he
        cases plainO o.op <;> cases c <;> exact fun h => h
      cases c with
      | false => simp at he
      | true =>
        simp only [cond_true] at he
        refine ⟨s, he, ?_⟩
        cases hf : floats o.op with
        | true =>
          obtain ⟨v, ρ', h1, h2⟩ := opE_float hτ hc hf hop rfl
          exact .inl ⟨hf, v, ρ', h1, h2⟩
        | false =>
          obtain ⟨w', ρ', h1, h2⟩ := opE_rest hτ (fun h => by rw [← her]; exact h) hc hf hop rfl
          refine .inr ⟨hf, fun K Q hK => ?_⟩
          unfold Oper.wp
          rcases h2 with ⟨v, g1, g2⟩ | ⟨g1, g2⟩
          · rw [g1]; exact hK v w' ρ' (fun _ => h1) g2
          · rw [g1]; exact hK undef w' ρ' (fun _ => h1) g2

theorem Conc.reset (hc : Conc E st a w ρ) (t : Tmp) {x : AV} (hx : ConcV w (Imm E w st.heap ρ) st.heap ρ x (a.tmps.getD t undef)) : Conc E (st.set (some t) x) a w ρ := by
  have := hc.set (some t) hx
  have ha : a.put (some t) (a.tmps.getD t undef) = a := by
    obtain ⟨tmps, dfr⟩ := a
    simp only [Act.put, Act.mk.injEq, and_true]
    apply Array.ext_getElem?
    intro i
    rw [Array.getElem?_setIfInBounds]
    split
    · rename_i e
      subst e
      split
      · rename_i hlt; simp [hlt]
      · rename_i hlt; simp [Array.getElem?_eq_none (Nat.le_of_not_lt hlt)]
    · rfl
  rwa [ha] at this

theorem op_ok {R : Type} {K : St → Option R} {r : R} (hτ : ∀ t, TIOk E.P t (τ t)) (her : erOf τ = E.er) (hft : ∀ f e, ft f = some e → Sat E.P f e) (hc : Conc E st a w ρ) {ops : Array Oper} {o : Oper} {os : List Oper}
    (he : opsK τ ft ops (o :: os) st K = some r) :
    ∃ st', opsK τ ft ops os st' K = some r ∧ ((Region.wanted o (yielded ops a.tmps) = false ∧ Conc E st' (a.put o.dst undef) w ρ) ∨ (Region.wanted o (yielded ops a.tmps) = true ∧ Stepped E o a w st')) := by
  have hskip : ∀ {s : St}, Conc E s a w ρ → Conc E (s.set o.dst .u) (a.put o.dst undef) w ρ := fun hs => hs.set o.dst (by unfold ConcV; rfl)
  unfold opsK at he
  split at he
  · rename_i hg
    obtain ⟨st', h1, h2⟩ := stepK_ok hτ her hft hc he
    exact ⟨st', h1, .inr ⟨by simp [Region.wanted, hg], h2⟩⟩
  · rename_i j pol hg
    split at he
    · rename_i t ht
      have hget := hc.get t
      have hy : ∀ x : AV, st.tmps.getD t .bad = x → x ≠ .bad → yielded ops a.tmps j = match a.tmps.getD t undef with | .bool b => some b | _ => none := by
        intro x hx hne
        unfold yielded
        have hlt : t < a.tmps.size := by
          have h1 := ConcVs_length hc.tmp
          rw [List.getD_eq_getElem?_getD] at hx
          rw [Array.length_toList] at h1
          rcases Nat.lt_or_ge t st.tmps.length with h | h
          · exact h1 ▸ h
          · rw [List.getElem?_eq_none h] at hx; exact (hne hx.symm).elim
        have ht' : ((ops[j]?).bind fun x => x.dst) = some t := ht
        simp only [ht', Option.bind_some, Array.getElem?_eq_getElem hlt]
        simp [hlt]
        cases a.tmps[t] <;> rfl
      split at he
      · rename_i x hx
        rw [hx] at hget
        have hy' := hy _ hx (by simp)
        have hval : a.tmps.getD t undef = .bool x := by unfold ConcV at hget; exact hget.1
        rw [hval] at hy'
        have hfin : ∀ (b : Bool), x = b → (bif Bool.xor b pol then opsK τ ft ops os ((st.set (some t) (.v (.bool b))).set o.dst .u) K else stepK τ ft (st.set (some t) (.v (.bool b))) o (fun s => opsK τ ft ops os s K)) = some r →
            ∃ st', opsK τ ft ops os st' K = some r ∧ ((Region.wanted o (yielded ops a.tmps) = false ∧ Conc E st' (a.put o.dst undef) w ρ) ∨ (Region.wanted o (yielded ops a.tmps) = true ∧ Stepped E o a w st')) := by
          intro b hb hh
          subst hb
          have hc' : Conc E (st.set (some t) (.v (.bool x))) a w ρ := hc.reset t (by rw [hval]; exact conc_v trivial)
          have hw : Region.wanted o (yielded ops a.tmps) = !(Bool.xor x pol) := by
            simp only [Region.wanted, hg, hy']
            cases x <;> cases pol <;> rfl
          cases hxp : Bool.xor x pol with
          | true =>
            rw [hxp] at hh hw
            exact ⟨_, hh, .inl ⟨hw, hskip hc'⟩⟩
          | false =>
            rw [hxp] at hh hw
            obtain ⟨st', h1, h2⟩ := stepK_ok hτ her hft hc' hh
            exact ⟨st', h1, .inr ⟨hw, h2⟩⟩
        cases x with
        | true => exact hfin true rfl he
        | false => exact hfin false rfl he
      · rename_i hx
        rw [hx] at hget
        have hy' := hy _ hx (by simp)
        have hval : a.tmps.getD t undef = undef := by unfold ConcV at hget; exact hget
        rw [hval] at hy'
        refine ⟨_, he, .inl ⟨?_, hskip hc⟩⟩
        simp only [Region.wanted, hg, hy', undef]
        rfl
      · cases he
    · cases he

theorem opsK_ok {R : Type} {K : St → Option R} {r : R} (hτ : ∀ t, TIOk E.P t (τ t)) (her : erOf τ = E.er) (hft : ∀ f e, ft f = some e → Sat E.P f e) {ops : Array Oper} {Q : Exit → Act → World → Prop} (hK : ∀ st a w ρ, K st = some r → Conc E st a w ρ → Q .normal a w) :
    ∀ (l : List Oper) (st : St) (a : Act) (w : World) (ρ : Rho), Conc E st a w ρ → opsK τ ft ops l st K = some r → wpList E.P ops Q l a w
  | [], st, a, w, ρ, hc, he => hK st a w ρ (by unfold opsK at he; exact he) hc
  | o :: os, st, a, w, ρ, hc, he => by
    obtain ⟨st', h1, h2⟩ := op_ok hτ her hft hc he
    unfold wpList
    rcases h2 with ⟨hw, h2⟩ | ⟨hw, h2⟩
    · rw [hw]
      simp only [Bool.false_eq_true, if_false]
      exact opsK_ok hτ her hft hK os st' _ _ _ h2 h1
    · rw [hw]
      simp only [if_true]
      exact .inl (h2.wp floats_grows (fun v w' ρ' _ hcc => opsK_ok hτ her hft hK os st' _ _ _ hcc h1))
end
end Go.Proofs.Ai

set_option linter.unusedVariables false
set_option linter.constructorNameAsVariable false
set_option linter.unusedSimpArgs false
namespace Go.Proofs.Ai
open Go.RowKit

/-! ### 21. Regions that draw their order -/
/-- who waits for operation i, by whatever chain -/
def waits (md : Region.Mode) (ops : Array Oper) (i : Nat) : List Nat :=
  (List.range ops.size).foldl (fun W j => match ops[j]? with
    | some o => bif o.after.any (fun e => Region.binds md e && (e.on == i || W.contains e.on)) then j :: W else W
    | none => W) []
def floatOk (md : Region.Mode) (ops : Array Oper) (listed : Array Bool) (i : Nat) (W : List Nat) : Bool :=
  match ops[i]? with
  | none => false
  | some oi => floats oi.op &&
    W.all (fun j => (match ops[j]? with
      | some o => o.after.any (fun e => Region.binds md e && (e.on == i || W.contains e.on))
      | none => false) && !listed.getD j true) &&
    (List.range ops.size).all fun j => j == i || listed.getD j true || W.contains j || (match ops[j]? with
      | some oj => oi.apart ops oj && growsO oj.op
      | none => true)
def ordOk (md : Region.Mode) (ops : Array Oper) : List Nat → Array Bool → Bool
  | [], listed => (Region.ready md ops listed).isEmpty
  | i :: is, listed => (Region.ready md ops listed).contains i && (floatOk md ops listed i (waits md ops i) || Region.ready md ops listed == [i]) && ordOk md ops is (listed.setIfInBounds i true)
def drawOk (ops : Array Oper) (l : List Nat) : Bool := Region.noSelect ops && l.length == ops.size && ordOk .any ops l (Array.replicate ops.size false)

section
variable {P : Program} {ops : Array Oper} {Q : Exit → Act → World → Prop} {md : Region.Mode}
def gOp (P : Program) (ops : Array Oper) (Q : Exit → Act → World → Prop) (i : Nat) (K : Act → World → Prop) (a : Act) (w : World) : Prop :=
  match ops[i]? with
  | none => K a w
  | some o => if Region.wanted o (yielded ops a.tmps) then o.wp P a w (fun a' w' => (growsO o.op = true → Below w.heap.size w w') ∧ K a' w') Q else K (a.put o.dst undef) w
def wpAnyG (P : Program) (md : Region.Mode) (ops : Array Oper) (Q : Exit → Act → World → Prop) : Nat → Array Bool → Act → World → Prop
  | 0, listed, a, w => Region.ready md ops listed = [] ∧ Q .normal a w
  | fuel + 1, listed, a, w => (Region.ready md ops listed = [] → Q .normal a w) ∧
    ∀ i ∈ Region.ready md ops listed, gOp P ops Q i (wpAnyG P md ops Q fuel (listed.setIfInBounds i true)) a w

theorem gOp_mono {i : Nat} {a : Act} {w : World} {K K' : Act → World → Prop} (h : ∀ a w, K a w → K' a w) (hh : gOp P ops Q i K a w) : gOp P ops Q i K' a w := by
  unfold gOp at *
  split
  · rename_i ho; simp only [ho] at hh; exact h _ _ hh
  · rename_i o ho
    simp only [ho] at hh
    split
    · rename_i hw
      simp only [hw, if_true] at hh
      exact Oper.wp_mono (fun a' w' ⟨h1, h2⟩ => ⟨h1, h _ _ h2⟩) hh
    · rename_i hw
      simp only [hw] at hh
      exact h _ _ hh
theorem wpOp_of_G {i : Nat} {a : Act} {w : World} {K K' : Act → World → Prop} (h : ∀ a w, K a w → K' a w) (hh : gOp P ops Q i K a w) : wpOp P ops Q i K' a w := by
  unfold gOp at hh
  unfold wpOp
  split
  · rename_i ho; simp only [ho] at hh; exact h _ _ hh
  · rename_i o ho
    simp only [ho] at hh
    split
    · rename_i hw
      simp only [hw, if_true] at hh
      exact .inl (Oper.wp_mono (fun a' w' ⟨h1, h2⟩ => h _ _ h2) hh)
    · rename_i hw
      simp only [hw] at hh
      exact h _ _ hh
theorem wpAny_of_G : ∀ (fuel : Nat) (listed : Array Bool) (a : Act) (w : World), wpAnyG P md ops Q fuel listed a w → wpAny P md ops Q fuel listed a w
  | 0, _, _, _, h => h
  | fuel + 1, _, _, _, h => ⟨h.1, fun i hi => wpOp_of_G (fun a w => wpAny_of_G fuel _ a w) (h.2 i hi)⟩

/-- Whatever comes before it, it yields this. -/
def StableY (P : Program) (ops : Array Oper) (o : Oper) (v : Value) (a : Act) (w : World) : Prop :=
  (Region.wanted o (yielded ops a.tmps) = true ∧ ∀ w1, Below w.heap.size w w1 → (execOp a.eval o).run P w1 = .ok (.value v) w1) ∨
  (Region.wanted o (yielded ops a.tmps) = false ∧ v = undef)

theorem StableY.of_same {o : Oper} {v : Value} {a a' : Act} {w w' : World} (hy : StableY P ops o v a w) (hb : Below w.heap.size w w') (he : execOp a'.eval o = execOp a.eval o)
    (hw : Region.wanted o (yielded ops a'.tmps) = Region.wanted o (yielded ops a.tmps)) : StableY P ops o v a' w' := by
  unfold StableY at *
  rw [he, hw]
  rcases hy with ⟨h1, h2⟩ | h
  · exact .inl ⟨h1, fun w1 hb1 => h2 w1 (hb.trans (hb1.mono hb.size))⟩
  · exact .inr h
theorem StableY.gOp {i : Nat} {o : Oper} {v : Value} {a : Act} {w : World} (hi : ops[i]? = some o) (hy : StableY P ops o v a w) {K : Act → World → Prop} (h : K (a.put o.dst v) w) : gOp P ops Q i K a w := by
  unfold Ai.gOp
  simp only [hi]
  rcases hy with ⟨hw, hv⟩ | ⟨hw, rfl⟩
  · simp only [hw, if_true, Oper.wp, hv w (Below.refl _ w), Oper.upon]
    exact ⟨fun _ => Below.refl _ w, h⟩
  · simp only [hw, Bool.false_eq_true, if_false]; exact h

theorem gOp_put {j : Nat} {oi oj : Oper} {v : Value} (hj : ops[j]? = some oj) (hap : oi.apart ops oj = true) (hgr : growsO oj.op = true)
    (hsi : ∀ cs b, oi.op ≠ .select cs b) (hsj : ∀ cs b, oj.op ≠ .select cs b)
    (hQ : ∀ c a w, ¬ Q (.panic c) a w) {K : Act → World → Prop} {a : Act} {w : World}
    (hy : StableY P ops oi v a w) (h : gOp P ops Q j K (a.put oi.dst v) w) :
    gOp P ops Q j (fun a' w' => StableY P ops oi v a' w' ∧ K (a'.put oi.dst v) w') a w := by
  obtain ⟨h1, h2, h3⟩ := Oper.apart_spec hap
  have keep : ∀ (a : Act) (w w' : World), Below w.heap.size w w' → StableY P ops oi v a w → ∀ u, StableY P ops oi v (a.put oj.dst u) w' := fun a w w' hb hy u =>
    hy.of_same hb (execOp_put oi hsi a oj.dst u h3) (wanted_put oi a oj.dst u h3)
  have keepD : ∀ d, StableY P ops oi v { a with defers := d :: a.defers } w := fun d => hy.of_same (Below.refl _ w) rfl rfl
  unfold gOp at *
  simp only [hj] at *
  rw [wanted_put oj a oi.dst v h1] at h
  split
  · rename_i hw
    simp only [hw, if_true] at h
    unfold Oper.wp at *
    rw [execOp_put oj hsj a oi.dst v h1] at h
    generalize (execOp a.eval oj).run P w = r at *
    cases r with
    | ok n w' =>
      cases n <;> simp only [Oper.upon] at h ⊢
      case value u => exact ⟨h.1, keep a w w' (h.1 hgr) hy u, by rw [← Act.put_comm a v u h2]; exact h.2⟩
      case skip => exact ⟨h.1, keep a w w' (h.1 hgr) hy _, by rw [← Act.put_comm a v undef h2]; exact h.2⟩
      case defer d =>
        refine ⟨h.1, keep _ w w' (h.1 hgr) (keepD d) _, ?_⟩
        rw [← Act.put_comm _ v undef h2, ← Act.put_defers]
        exact h.2
      case enter f args =>
        refine Calls.mono h fun e w'' he => ?_
        cases e with
        | returned u => exact ⟨he.1, keep a w w'' (he.1 hgr) hy u, by rw [← Act.put_comm a v u h2]; exact he.2⟩
        | panicked c => exact (hQ _ _ _ he).elim
        | outgrown => exact he
      case row row args => exact Rows.mono h fun u w'' he => ⟨he.1, keep a w w'' (he.1 hgr) hy u, by rw [← Act.put_comm a v u h2]; exact he.2⟩
    | halt x w' =>
      cases x <;> simp only [Oper.upon] at h ⊢
      case panic u => exact (hQ _ _ _ h).elim
  · rename_i hw
    simp only [hw] at h
    exact ⟨keep a w w (Below.refl _ w) hy _, by rw [← Act.put_comm a v undef h2]; exact h⟩

theorem wpAnyG_first {i : Nat} {oi : Oper} {v : Value} {W : List Nat} (hi : ops[i]? = some oi) (hsel : ∀ (j : Nat) (o : Oper) cs b, ops[j]? = some o → o.op ≠ .select cs b)
    (hQ : ∀ c a w, ¬ Q (.panic c) a w) (hW : ∀ j ∈ W, ∃ oj, ops[j]? = some oj ∧ ∃ e ∈ oj.after, Region.binds md e = true ∧ (e.on = i ∨ e.on ∈ W)) :
    ∀ (fuel : Nat) (listed : Array Bool) (a : Act) (w : World),
      (∀ j oj, ops[j]? = some oj → j ≠ i → listed.getD j true = false → j ∉ W → oi.apart ops oj = true ∧ growsO oj.op = true) →
      (∀ j ∈ W, listed.getD j true = false) →
      i ∈ Region.ready md ops listed → StableY P ops oi v a w →
      wpAnyG P md ops Q fuel (listed.setIfInBounds i true) (a.put oi.dst v) w → wpAnyG P md ops Q (fuel + 1) listed a w := by
  intro fuel
  induction fuel with
  | zero =>
    intro listed a w _ _ hr hy H
    refine ⟨fun h => (by rw [h] at hr; cases hr), fun j hj => ?_⟩
    by_cases hji : j = i
    · subst hji; exact hy.gOp hi H
    · have := ready_mono hj hji
      rw [H.1] at this
      cases this
  | succ fuel ih =>
    intro listed a w hfree hnl hr hy H
    refine ⟨fun h => (by rw [h] at hr; cases hr), fun j hj => ?_⟩
    by_cases hji : j = i
    · subst hji; exact hy.gOp hi H
    · have h1 := H.2 j (ready_mono hj hji)
      obtain ⟨hjun, oj, hoj, hall⟩ := mem_ready.1 hj
      have hun : ∀ k, listed.getD k true = false → listed.getD k false = true → False := by
        intro k h0 h1
        rcases Nat.lt_or_ge k listed.size with h' | h'
        · simp [h'] at h0 h1; rw [h0] at h1; cases h1
        · simp [Array.getElem?_eq_none h'] at h1
      have hjW : j ∉ W := by
        intro hm
        obtain ⟨oj', ho', e, he, hb, hon⟩ := hW j hm
        rw [hoj] at ho'
        simp only [Option.some.injEq] at ho'
        subst ho'
        have hl := hall e he hb
        rcases hon with hon | hon
        · rw [hon] at hl; exact hun i (mem_ready.1 hr).1 hl
        · exact hun _ (hnl _ hon) hl
      obtain ⟨hap, hgr⟩ := hfree j oj hoj hji hjun hjW
      have h2 := gOp_put hoj hap hgr (fun cs b => hsel i oi cs b hi) (fun cs b => hsel j oj cs b hoj) hQ hy h1
      have hfree' : ∀ k ok, ops[k]? = some ok → k ≠ i → (listed.setIfInBounds j true).getD k true = false → k ∉ W → oi.apart ops ok = true ∧ growsO ok.op = true := fun k ok hk hki hun' hno => by
        refine hfree k ok hk hki ?_ hno
        by_cases hjk : j = k
        · subst hjk; exact hjun
        · rw [getD_set_ne true hjk] at hun'; exact hun'
      have hnl' : ∀ k ∈ W, (listed.setIfInBounds j true).getD k true = false := fun k hk => by
        rw [getD_set_ne true (fun e => hjW (by rw [e]; exact hk))]
        exact hnl k hk
      refine gOp_mono (fun a' w' h3 => ih (listed.setIfInBounds j true) a' w' hfree' hnl' (ready_mono hr (Ne.symm hji)) h3.1 ?_) h2
      rw [Array.setIfInBounds_comm _ _ hji]
      exact h3.2
end

section
variable {E : Env} {st st' : St} {a : Act} {w w' : World} {ρ ρ' : Rho} {τ : TypeId → TI} {ft : FuncId → Option FE}

theorem floatOk_spec {md : Region.Mode} {ops : Array Oper} {listed : Array Bool} {i : Nat} {W : List Nat} (h : floatOk md ops listed i W = true) : ∃ oi, ops[i]? = some oi ∧ floats oi.op = true ∧
    (∀ j ∈ W, ∃ oj, ops[j]? = some oj ∧ ∃ e ∈ oj.after, Region.binds md e = true ∧ (e.on = i ∨ e.on ∈ W)) ∧ (∀ j ∈ W, listed.getD j true = false) ∧
    (∀ j oj, ops[j]? = some oj → j ≠ i → listed.getD j true = false → j ∉ W → oi.apart ops oj = true ∧ growsO oj.op = true) := by
  unfold floatOk at h
  cases hi : ops[i]? with
  | none => rw [hi] at h; simp at h
  | some oi =>
    rw [hi] at h
    simp only [Bool.and_eq_true] at h
    obtain ⟨⟨h1, h2⟩, h3⟩ := h
    rw [List.all_eq_true] at h2 h3
    refine ⟨oi, rfl, h1, fun j hj => ?_, fun j hj => ?_, fun j oj hoj hji hun hjW => ?_⟩
    · have := h2 j hj
      simp only [Bool.and_eq_true] at this
      cases hoj : ops[j]? with
      | none => rw [hoj] at this; simp at this
      | some oj =>
        rw [hoj] at this
        obtain ⟨e, he, hb⟩ := Array.any_eq_true'.1 this.1
        simp only [Bool.and_eq_true, Bool.or_eq_true, beq_iff_eq, List.contains_iff_mem] at hb
        exact ⟨oj, rfl, e, he, hb.1, hb.2⟩
    · have := h2 j hj
      simp only [Bool.and_eq_true, Bool.not_eq_true'] at this
      exact this.2
    · have := h3 j (List.mem_range.2 (Array.getElem?_eq_some_iff.1 hoj).1)
      rw [hoj] at this
      have hWc : W.contains j = false := by
        cases hc : W.contains j with
        | false => rfl
        | true => exact (hjW (by simpa using hc)).elim
      have hje : (j == i) = false := by simpa using hji
      simp only [hje, hun, hWc, Bool.false_or, Bool.and_eq_true] at this
      exact this

theorem draw_ok {R : Type} {K : St → Option R} {r : R} (hτ : ∀ t, TIOk E.P t (τ t)) (her : erOf τ = E.er) (hE : E.er = false) (hft : ∀ f e, ft f = some e → Sat E.P f e) {ops : Array Oper} {Q : Exit → Act → World → Prop} (hQ : ∀ c a w, ¬ Q (.panic c) a w)
    (hK : ∀ st a w ρ, K st = some r → Conc E st a w ρ → Q .normal a w) (hsel : Region.noSelect ops = true) {md : Region.Mode} :
    ∀ (l : List Nat) (listed : Array Bool) (st : St) (a : Act) (w : World) (ρ : Rho), ordOk md ops l listed = true → Conc E st a w ρ → opsK τ ft ops (l.filterMap (ops[·]?)) st K = some r → wpAnyG E.P md ops Q l.length listed a w
  | [], listed, st, a, w, ρ, hB, hc, he => by
    unfold ordOk at hB
    exact ⟨by simpa using hB, hK st a w ρ (by simpa [opsK] using he) hc⟩
  | i :: l, listed, st, a, w, ρ, hB, hc, he => by
    unfold ordOk at hB
    simp only [Bool.and_eq_true, Bool.or_eq_true] at hB
    obtain ⟨⟨hr, hf⟩, hB'⟩ := hB
    have hr' : i ∈ Region.ready md ops listed := by simpa using hr
    obtain ⟨_, o, ho, _⟩ := mem_ready.1 hr'
    simp only [List.filterMap_cons, ho] at he
    obtain ⟨st', h1, h2⟩ := op_ok hτ her hft hc he
    rcases hf with hf | hf
    · obtain ⟨oi, g1, g2, g3, g4, g5⟩ := floatOk_spec hf
      rw [ho] at g1
      simp only [Option.some.injEq] at g1
      subst g1
      obtain ⟨v, ρ', hy, hcc⟩ : ∃ v ρ', StableY E.P ops o v a w ∧ Conc E st' (a.put o.dst v) w ρ' := by
        rcases h2 with ⟨hw, h2⟩ | ⟨hw, ⟨_, v, ρ', k1, k2⟩ | ⟨k1, _⟩⟩
        · exact ⟨undef, ρ, .inr ⟨hw, rfl⟩, h2⟩
        · exact ⟨v, ρ', .inl ⟨hw, k1⟩, k2⟩
        · rw [g2] at k1; cases k1
      exact wpAnyG_first ho (Region.noSelect_spec hsel) hQ g3 l.length listed a w g5 g4 hr' hy (draw_ok hτ her hE hft hQ hK hsel l _ st' _ w ρ' hB' hcc h1)
    · have hre : Region.ready md ops listed = [i] := by simpa using hf
      refine ⟨fun h0 => (by rw [h0] at hre; cases hre), fun j hj => ?_⟩
      rw [hre] at hj
      simp only [List.mem_singleton] at hj
      subst hj
      unfold gOp
      simp only [ho]
      rcases h2 with ⟨hw, h2⟩ | ⟨hw, h2⟩
      · simp only [hw, Bool.false_eq_true, if_false]
        exact draw_ok hτ her hE hft hQ hK hsel l _ st' _ w ρ hB' h2 h1
      · simp only [hw, if_true]
        exact h2.wp floats_grows (fun v w' ρ' hg hcc => ⟨hg hE, draw_ok hτ her hE hft hQ hK hsel l _ st' _ w' ρ' hB' hcc h1⟩)

theorem region_draw_ok {R : Type} {K : St → Option R} {r : R} (hτ : ∀ t, TIOk E.P t (τ t)) (her : erOf τ = E.er) (hE : E.er = false) (hft : ∀ f e, ft f = some e → Sat E.P f e) (hm : E.P.follows .mixedOrders = true) {ops : Array Oper} {Q : Exit → Act → World → Prop} (hQ : ∀ c a w, ¬ Q (.panic c) a w)
    (hK : ∀ st a w ρ, K st = some r → Conc E st a w ρ → Q .normal a w) {l : List Nat} (hB : drawOk ops l = true) {id : Nat} (hc : Conc E st a w ρ) (he : opsK τ ft ops (l.filterMap (ops[·]?)) st K = some r) :
    (Code.region id ops true).wp E.P Q a w := by
  simp only [drawOk, Bool.and_eq_true, beq_iff_eq] at hB
  obtain ⟨⟨h1, h2⟩, h3⟩ := hB
  refine wp_region_any hm (wpAny_of_G _ _ _ _ ?_)
  rw [← h2]
  exact draw_ok hτ her hE hft hQ hK h1 l _ st a _ ρ (by rw [h2]; exact h3) (hc.grow (w' := { w with drawn := w.drawn + 1 }) (Below.refl _ w).drew) he
end
end Go.Proofs.Ai

set_option linter.unusedVariables false
set_option linter.constructorNameAsVariable false
set_option linter.unusedSimpArgs false
namespace Go.Proofs.Ai
open Go.RowKit

/-! ### 22. Code -/
/-- every drawn region's order is one that serves -/
def ordsOk (ord : Nat → List Nat) : Code → Bool
  | .region id ops draw => bif draw then drawOk ops (ord id) else true
  | .seq a b => ordsOk ord a && ordsOk ord b
  | .cond _ a b => ordsOk ord a && ordsOk ord b
  | .block _ c => ordsOk ord c
  | .loop c => ordsOk ord c
  | _ => true
def noDraw : Code → Bool
  | .region _ _ draw => !draw
  | .seq a b => noDraw a && noDraw b
  | .cond _ a b => noDraw a && noDraw b
  | .block _ c => noDraw c
  | .loop c => noDraw c
  | _ => true
def Ex.out : Ex → Exit
  | .normal => .normal
  | .exit id => .exit id
  | .ret => .ret

section
variable {E : Env} {st st' : St} {a : Act} {w w' : World} {h h' : Heap} {ρ ρ' : Rho} {I : Bool → Nat → Prop} {τ : TypeId → TI} {ft : FuncId → Option FE}

theorem pruneL_ok (live : List Nat) : ∀ (l : List AV) (n : Nat) (us : List Value), ConcVs w I h ρ l us → ConcVs w I h ρ (pruneL live n l) us
  | [], n, us, hc => by unfold pruneL; exact hc
  | x :: l, n, us, hc => by
    cases us with
    | nil => unfold ConcVs at hc; exact hc.elim
    | cons u us =>
      unfold ConcVs at hc
      unfold pruneL ConcVs
      refine ⟨?_, pruneL_ok live l (n + 1) us hc.2⟩
      cases live.contains n with
      | true => exact hc.1
      | false => simp only [cond_false]; unfold ConcV; trivial
theorem hget_pruneH (live : List Nat) : ∀ (h : Heap) (n : Nat), hget (pruneH live h) n = if live.contains n = true then hget h n else none
  | [], n => by simp [pruneH, hget]
  | (k, b) :: h, n => by
    unfold pruneH
    cases hk : live.contains k with
    | true =>
      simp only [cond_true, hget]
      by_cases e : k = n
      · subst e; rw [if_pos rfl, if_pos rfl, if_pos hk]
      · rw [if_neg e, if_neg e, hget_pruneH live h n]
    | false =>
      simp only [cond_false, hget]
      rw [hget_pruneH live h n]
      by_cases e : k = n
      · subst e; rw [hk]; simp
      · rw [if_neg e]

theorem Conc.prune (hc : Conc E st a w ρ) (H : List Nat × List Nat) : Conc E (st.prune H) a w ρ := by
  have h0 : Conc E ⟨pruneL H.1 0 st.tmps, st.heap⟩ a w ρ := ⟨pruneL_ok _ _ _ _ hc.tmp, hc.dfr, hc.blk, hc.inj, hc.frm, hc.size, hc.os, hc.tape, hc.output⟩
  obtain ⟨h', hh'⟩ : ∃ h', h' = pruneH H.2 (hren (fun k => H.2.contains k) (fun _ => .bad) st.heap) := ⟨_, rfl⟩
  have hg : ∀ n, hget h' n = if H.2.contains n = true then (hget st.heap n).map (AB.ren (fun k => H.2.contains k) (fun _ => .bad)) else none := by
    intro n; rw [hh', hget_pruneH, hget_hren]
  have hpr : st.prune H = ⟨AV.renL (fun k => H.2.contains k) (fun _ => .bad) (pruneL H.1 0 st.tmps), h'⟩ := by rw [hh']; rfl
  rw [hpr]
  have hown : ∀ b, Own h' ρ b → Own st.heap ρ b := by
    rintro b ⟨n, x, c, hn, hr⟩
    rw [hg] at hn
    split at hn
    · cases hx : hget st.heap n with
      | none => rw [hx] at hn; cases hn
      | some y => exact ⟨n, y, c, hx, hr⟩
    · cases hn
  have hI := Imm.step (E := E) (w := w) (w' := w) (h := st.heap) (h' := h') (ρ := ρ) (ρ' := ρ) (Nat.le_refl _) (fun b _ ho => hown b ho) (fun _ _ _ => rfl)
  have hk : ∀ n ab, H.2.contains n = true → hget st.heap n = some ab → ρ n = ρ n ∧ ∃ ab', hget h' n = some ab' ∧ SameShape ab ab' := by
    intro n ab hn hx
    exact ⟨rfl, _, by rw [hg, if_pos hn, hx]; rfl, AB.ren_shape _ _ _⟩
  have hs : ∀ n u, H.2.contains n = false → ConcV w (Imm E w st.heap ρ) st.heap ρ (.o n) u → ConcV w (Imm E w h' ρ) h' ρ AV.bad u := by
    intro n u _ _
    unfold ConcV; trivial
  refine h0.trans (fun k => H.2.contains k) (fun _ => .bad) h' ρ w (Nat.le_refl _) (fun b _ ho => hown b ho) (fun _ _ _ => rfl) hk hs ?_ ?_ rfl rfl rfl
  · intro n x hn
    rw [hg] at hn
    split at hn
    · cases hx : hget st.heap n with
      | none => rw [hx] at hn; cases hn
      | some y =>
        rw [hx] at hn
        simp only [Option.map_some, Option.some.injEq] at hn
        subst hn
        exact BlockOk.step hI hk hs (hc.blk n y hx) rfl (fun _ _ _ => rfl)
    · cases hn
  · intro n n' x x' g c c' hn hn' hr hr'
    rw [hg] at hn hn'
    split at hn
    · split at hn'
      · cases hx : hget st.heap n with
        | none => rw [hx] at hn; cases hn
        | some y =>
          cases hx' : hget st.heap n' with
          | none => rw [hx'] at hn'; cases hn'
          | some y' => exact hc.inj n n' y y' g c c' hx hx' hr hr'
      · cases hn'
    · cases hn

theorem codeK_ok {R : Type} {r : R} (hτ : ∀ t, TIOk E.P t (τ t)) (her : erOf τ = E.er) (hft : ∀ f e, ft f = some e → Sat E.P f e) (hm : E.P.follows .mixedOrders = true) {hint : Nat → Hint} {ord : Nat → List Nat} :
    ∀ (c : Code) (n : Nat) (st : St) (K : Ex → St → Option R) (Q : Exit → Act → World → Prop) (a : Act) (w : World) (ρ : Rho), ordsOk ord c = true → (E.er = true → noDraw c = true) → (∀ c a w, ¬ Q (.panic c) a w) →
      (∀ e st a w ρ, K e st = some r → Conc E st a w ρ → Q e.out a w) → Conc E st a w ρ → codeK τ ft hint ord c n st K = some r → c.wp E.P Q a w
  | .skip, n, st, K, Q, a, w, ρ, ho, hd, hQ, hK, hc, he => wp_skip (hK .normal st a w ρ he hc)
  | .region id ops draw, n, st, K, Q, a, w, ρ, ho, hd, hQ, hK, hc, he => by
    unfold codeK at he
    cases draw with
    | true =>
      simp only [cond_true] at he
      have hE : E.er = false := by
        cases he' : E.er with
        | false => rfl
        | true => have := hd he'; simp [noDraw] at this
      exact region_draw_ok hτ her hE hft hm hQ (fun st a w ρ h1 h2 => hK .normal st a w ρ h1 h2) (by simpa [ordsOk] using ho) hc he
    | false =>
      simp only [cond_false] at he
      exact wp_region_list (opsK_ok hτ her hft (fun st a w ρ h1 h2 => hK .normal st a w ρ h1 h2) _ st a w ρ hc he)
  | .seq x y, n, st, K, Q, a, w, ρ, ho, hd, hQ, hK, hc, he => by
    unfold codeK at he
    simp only [ordsOk, Bool.and_eq_true] at ho
    refine wp_seq (codeK_ok hτ her hft hm x n st _ _ a w ρ ho.1 (fun h => (Bool.and_eq_true_iff.1 (hd h)).1) (fun c a w h => ?_) (fun e s a w ρ h1 h2 => ?_) hc he)
    · exact hQ c a w h
    · cases e with
      | normal => exact codeK_ok hτ her hft hm y n s K Q a w ρ ho.2 (fun h => (Bool.and_eq_true_iff.1 (hd h)).2) hQ hK h2 h1
      | exit id => exact hK (.exit id) s a w ρ h1 h2
      | ret => exact hK .ret s a w ρ h1 h2
  | .cond c x y, n, st, K, Q, a, w, ρ, ho, hd, hQ, hK, hc, he => by
    unfold codeK at he
    simp only [ordsOk, Bool.and_eq_true] at ho
    have hx := hc.eval c
    split at he
    · rename_i b hb
      rw [hb] at hx
      unfold ConcV at hx
      refine wp_cond hx.1 ?_
      cases b with
      | true => exact codeK_ok hτ her hft hm x n st K Q a w ρ ho.1 (fun h => (Bool.and_eq_true_iff.1 (hd h)).1) hQ hK hc he
      | false => exact codeK_ok hτ her hft hm y n st K Q a w ρ ho.2 (fun h => (Bool.and_eq_true_iff.1 (hd h)).2) hQ hK hc he
    · cases he
  | .block id c, n, st, K, Q, a, w, ρ, ho, hd, hQ, hK, hc, he => by
    unfold codeK at he
    refine wp_block (codeK_ok hτ her hft hm c n st _ _ a w ρ (by simpa [ordsOk] using ho) hd (fun c a w h => hQ c a w h) (fun e s a w ρ h1 h2 => ?_) hc he)
    cases e with
    | normal => exact hK .normal s a w ρ h1 h2
    | ret => exact hK .ret s a w ρ h1 h2
    | exit j =>
      simp only [Ex.block] at h1
      simp only [Ex.out, Exit.inBlock]
      split at h1
      · rename_i hj; rw [if_pos hj]; exact hK .normal s a w ρ h1 h2
      · rename_i hj; rw [if_neg hj]; exact hK (.exit j) s a w ρ h1 h2
  | .loop c, n, st, K, Q, a, w, ρ, ho, hd, hQ, hK, hc, he => by
    unfold codeK at he
    refine wp_loop_ghost (fun m a w => ∃ st ρ, Conc E st a w ρ ∧ loopK (codeK τ ft hint ord c n) (hint (firstRegion c)) m st K = some r) n ⟨_, ρ, hc.prune _, he⟩ ?_
    rintro m a w ⟨st, ρ, hc, he⟩
    cases m with
    | zero => unfold loopK at he; cases he
    | succ m =>
      unfold loopK at he
      refine codeK_ok hτ her hft hm c n st _ _ a w ρ (by simpa [ordsOk] using ho) hd (fun c a w h => hQ c a w h) (fun e s a w ρ h1 h2 => ?_) hc he
      cases e with
      | normal => exact ⟨m, Nat.lt_succ_self m, _, ρ, h2.prune _, h1⟩
      | exit j => exact hK (.exit j) _ a w ρ h1 (h2.prune _)
      | ret => exact hK .ret _ a w ρ h1 (h2.prune _)
  | .exit id, n, st, K, Q, a, w, ρ, ho, hd, hQ, hK, hc, he => wp_exit (hK (.exit id) st a w ρ he hc)
  | .ret, n, st, K, Q, a, w, ρ, ho, hd, hQ, hK, hc, he => wp_ret (hK .ret st a w ρ he hc)
  | .rangeFunc _ _ _ _, n, st, K, Q, a, w, ρ, ho, hd, hQ, hK, hc, he => by simp [codeK] at he
  | .scope _, n, st, K, Q, a, w, ρ, ho, hd, hQ, hK, hc, he => by simp [codeK] at he
  | .label _, n, st, K, Q, a, w, ρ, ho, hd, hQ, hK, hc, he => by simp [codeK] at he
  | .goto _, n, st, K, Q, a, w, ρ, ho, hd, hQ, hK, hc, he => by simp [codeK] at he
  | .refuse _, n, st, K, Q, a, w, ρ, ho, hd, hQ, hK, hc, he => by simp [codeK] at he
end
end Go.Proofs.Ai
