/- A general part of the proof: the walker by abstract values and its soundness, for every program; no condition. -/
import Derived.Test.YtjeedadfhoiedaaGreatA0
set_option linter.unusedVariables false
set_option linter.constructorNameAsVariable false
namespace Go.Proofs.Ai
open Go.RowKit

section
variable {E : Env} {st : St} {a : Act} {w w' : World} {h h' : Heap} {ρ ρ' : Rho}

theorem Conc.ownAt (hc : Conc E st a w ρ) {b : Nat} (ho : Own st.heap ρ b) : E.base ≤ b ∨ E.own0 b := by
  obtain ⟨k, ab, c, hg, hr⟩ := ho
  have hb := hc.blk k ab hg
  cases ab with
  | box cells =>
    obtain ⟨g, c', T, cur, h1, h2, h3, h4⟩ := hb
    rw [h1] at hr
    simp only [Option.some.injEq, Prod.mk.injEq] at hr
    rw [← hr.1]; exact h2
  | sl fr e cs xs =>
    rcases hb with ⟨h1, h2⟩ | ⟨g, cap, cur, h1, h2, hfr, h3, _⟩
    · rw [h1] at hr; simp at hr
    · rw [h1] at hr
      simp only [Option.some.injEq, Prod.mk.injEq] at hr
      rw [← hr.1]; exact h2

theorem Conc.trans (hc : Conc E st a w ρ) (keep : Nat → Bool) (sub : Nat → AV) (h' : Heap) (ρ' : Rho) (w' : World)
    (hsz : w.heap.size ≤ w'.heap.size) (hown : ∀ b, b < w.heap.size → Own h' ρ' b → Own st.heap ρ b)
    (hblk : ∀ b, b < w.heap.size → ¬ Own st.heap ρ b → w'.heap[b]? = w.heap[b]?)
    (hk : ∀ k ab, keep k = true → hget st.heap k = some ab → ρ' k = ρ k ∧ ∃ ab', hget h' k = some ab' ∧ SameShape ab ab')
    (hs : ∀ k u, keep k = false → ConcV w (Imm E w st.heap ρ) st.heap ρ (.o k) u → ConcV w' (Imm E w' h' ρ') h' ρ' (sub k) u)
    (hb : ∀ k ab', hget h' k = some ab' → BlockOk E w' h' ρ' k ab')
    (hinj : ∀ k k' ab ab' g c c', hget h' k = some ab → hget h' k' = some ab' → ρ' k = some (g, c) → ρ' k' = some (g, c') → k = k')
    (hos : w'.os = w.os) (ht : w'.tape = w.tape) (hout : w'.output = w.output) : Conc E ⟨AV.renL keep sub st.tmps, h'⟩ a w' ρ' := by
  refine ⟨ConcVs.step (Imm.step hsz hown hblk) hk hs _ _ hc.tmp, hc.dfr, hb, hinj, fun b h1 h2 => ?_, Nat.le_trans hc.size hsz, hos.trans hc.os, ht.trans hc.tape, hout.trans hc.output⟩
  have hlt : b < w.heap.size := Nat.lt_of_lt_of_le h1 hc.size
  rw [hblk b hlt (fun ho => by rcases hc.ownAt ho with h | h; omega; exact h2 h)]
  exact hc.frm b h1 h2

mutual
theorem ren_notin {k : Nat} {sub : Nat → AV} : (x : AV) → k ∉ x.names → x.ren (fun n => !(Nat.beq n k)) sub = x
  | .v _, _ | .any _, _ | .one, _ | .z, _ | .d _ _ _, _ | .q _ _ _, _ | .u, _ | .bad, _ => by unfold AV.ren; rfl
  | .o n, hn | .p n _, hn | .e n _ _, hn => by
    have : n ≠ k := by intro e; subst e; exact hn (by simp [AV.names])
    unfold AV.ren
    have hb : Nat.beq n k = false := by
      cases hh : Nat.beq n k with
      | false => rfl
      | true => exact absurd (Nat.eq_of_beq_eq_true hh) this
    simp [hb]
  | .g l, hn | .t l, hn | .f _ l, hn => by unfold AV.ren; rw [renL_notin l (by simpa [AV.names] using hn)]
  | .pn _ a, hn => by unfold AV.ren; rw [ren_notin a (by simpa [AV.names] using hn)]
theorem renL_notin {k : Nat} {sub : Nat → AV} : (l : List AV) → k ∉ AV.namesL l → AV.renL (fun n => !(Nat.beq n k)) sub l = l
  | [], _ => by unfold AV.renL; rfl
  | x :: l, hn => by
    have h1 : k ∉ x.names := by intro h; exact hn (by simp [AV.namesL, h])
    have h2 : k ∉ AV.namesL l := by intro h; exact hn (by simp [AV.namesL, h])
    unfold AV.renL
    rw [ren_notin x h1, renL_notin l h2]
end

/-- where a name is not borne by the heap nothing means it -/
theorem kept_new (k : Nat) (hk : hget h k = none) : ∀ n ab, hget h n = some ab → n ≠ k := by
  intro n ab hn e; subst e; rw [hk] at hn; cases hn

theorem beq_ne {n k : Nat} : (!(Nat.beq n k)) = true ↔ n ≠ k := by
  cases hb : Nat.beq n k with
  | true => simp [Nat.eq_of_beq_eq_true hb]
  | false => simp; exact Nat.ne_of_beq_eq_false hb
theorem beq_eq' {n k : Nat} : (!(Nat.beq n k)) = false ↔ n = k := by
  cases hb : Nat.beq n k with
  | true => simp [Nat.eq_of_beq_eq_true hb]
  | false => simp; exact Nat.ne_of_beq_eq_false hb

def upd (ρ : Rho) (k : Nat) (l : Option (Nat × Nat)) : Rho := fun n => if n = k then l else ρ n
theorem upd_same (ρ : Rho) (k : Nat) (l : Option (Nat × Nat)) : upd ρ k l k = l := by simp [upd]
theorem upd_other {ρ : Rho} {k n : Nat} {l : Option (Nat × Nat)} (h : n ≠ k) : upd ρ k l n = ρ n := by simp [upd, h]

/-- the heap behind 'new' -/
theorem new_heap (st : St) (k : Nat) (b : AB) : ∃ keep sub, st.new k b = ⟨AV.renL keep sub st.tmps, (st.new k b).heap⟩ ∧
    (∀ n, hget (st.new k b).heap n = if n = k then some (b.ren keep sub) else (hget st.heap n).map (AB.ren keep sub)) ∧
    (∀ n, keep n = false → n = k) ∧ (∀ n, n = k → hget st.heap k ≠ none → keep n = false) ∧ (∀ n, sub n = .bad) ∧ (∀ x, k ∉ AV.names x → x.ren keep sub = x) := by
  unfold St.new
  cases hg : hget st.heap k with
  | none =>
    refine ⟨fun _ => true, fun _ => .bad, ?_, fun n => ?_, fun n hn => by simp at hn, fun n _ hf => (hf rfl).elim, fun _ => rfl, fun x _ => AV.ren_all _ x⟩
    · simp [AV.renL_all]
    · have hid : ∀ x : AB, x.ren (fun _ => true) (fun _ => AV.bad) = x := by intro x; cases x <;> simp [AB.ren, AV.renL_all]
      simp only [hget_hset, hid]
      by_cases e : n = k
      · simp [e]
      · simp [e]
        cases hget st.heap n <;> simp [hid]
  | some y =>
    refine ⟨fun n => !(Nat.beq n k), fun _ => .bad, rfl, fun n => ?_, fun n hn => beq_eq'.1 hn, fun n hn _ => beq_eq'.2 hn, fun _ => rfl, fun x hx => ren_notin x hx⟩
    simp only [St.scrub, St.ren, hget_hset, hget_hren]

theorem AB.ren_shape (keep : Nat → Bool) (sub : Nat → AV) (ab : AB) : SameShape ab (ab.ren keep sub) := by
  cases ab <;> simp [AB.ren, SameShape]

/-- A new own block, real or nil. -/
theorem Conc.new (hc : Conc E st a w ρ) (k : Nat) (ab : AB) (loc : Option (Nat × Nat)) (w' : World)
    (hw : (w' = w ∧ loc = none) ∨ ∃ o g c, w' = w.alloc o ∧ loc = some (g, c) ∧ g = w.heap.size)
    (hab : ∀ keep sub, (∀ n, keep n = false → n = k) → (∀ n, sub n = AV.bad) →
      (∀ x u, ConcV w (Imm E w st.heap ρ) st.heap ρ x u → ConcV w' (Imm E w' (st.new k ab).heap (upd ρ k loc)) (st.new k ab).heap (upd ρ k loc) (x.ren keep sub) u) →
      (∀ fr b, Imm E w st.heap ρ fr b → Imm E w' (st.new k ab).heap (upd ρ k loc) fr b ∧ w'.heap[b]? = w.heap[b]?) →
      (∀ l us, ConcVs w (Imm E w st.heap ρ) st.heap ρ l us → ConcVs w' (Imm E w' (st.new k ab).heap (upd ρ k loc)) (st.new k ab).heap (upd ρ k loc) (AV.renL keep sub l) us) →
      BlockOk E w' (st.new k ab).heap (upd ρ k loc) k (ab.ren keep sub)) :
    Conc E (st.new k ab) a w' (upd ρ k loc) ∧
      (∀ x u, ConcV w (Imm E w st.heap ρ) st.heap ρ x u → k ∉ x.names → ConcV w' (Imm E w' (st.new k ab).heap (upd ρ k loc)) (st.new k ab).heap (upd ρ k loc) x u) ∧
      (∀ fr b, Imm E w st.heap ρ fr b → Imm E w' (st.new k ab).heap (upd ρ k loc) fr b ∧ w'.heap[b]? = w.heap[b]?) := by
  obtain ⟨keep, sub, e1, e2, e3, e4, e5, e6⟩ := new_heap st k ab
  have hsz : w.heap.size ≤ w'.heap.size := by
    rcases hw with ⟨rfl, _⟩ | ⟨o, g, c, rfl, _⟩
    · exact Nat.le_refl _
    · simp
  have hbl : ∀ b, b < w.heap.size → w'.heap[b]? = w.heap[b]? := by
    rcases hw with ⟨rfl, _⟩ | ⟨o, g, c, rfl, _⟩
    · intro b _; rfl
    · intro b hb; exact Below.heap_alloc w o b hb
  have hloc : ∀ g c, loc = some (g, c) → g = w.heap.size := by
    intro g c hl
    rcases hw with ⟨_, h⟩ | ⟨o, g', c', _, h, hg⟩
    · rw [h] at hl; cases hl
    · rw [h] at hl; simp only [Option.some.injEq, Prod.mk.injEq] at hl; rw [← hl.1]; exact hg
  have hown : ∀ b, b < w.heap.size → Own (st.new k ab).heap (upd ρ k loc) b → Own st.heap ρ b := by
    rintro b hb ⟨n, x, c, hn, hr⟩
    by_cases e : n = k
    · subst e
      rw [upd_same] at hr
      have := hloc b c hr
      omega
    · rw [upd_other e] at hr
      rw [e2 n, if_neg e] at hn
      cases hx : hget st.heap n with
      | none => rw [hx] at hn; cases hn
      | some y => exact ⟨n, y, c, hx, hr⟩
  have hI := Imm.step (E := E) (w := w) (w' := w') (h := st.heap) (h' := (st.new k ab).heap) (ρ := ρ) (ρ' := upd ρ k loc) hsz hown (fun b hb _ => hbl b hb)
  have hk : ∀ n x, keep n = true → hget st.heap n = some x → upd ρ k loc n = ρ n ∧ ∃ x', hget (st.new k ab).heap n = some x' ∧ SameShape x x' := by
    intro n x hn hx
    have hne : n ≠ k := by
      intro e
      have := e4 n e (by rw [← e, hx]; simp)
      rw [this] at hn; cases hn
    refine ⟨upd_other hne, x.ren keep sub, ?_, AB.ren_shape _ _ _⟩
    rw [e2 n, if_neg hne, hx]; rfl
  have hs : ∀ n u, keep n = false → ConcV w (Imm E w st.heap ρ) st.heap ρ (.o n) u → ConcV w' (Imm E w' (st.new k ab).heap (upd ρ k loc)) (st.new k ab).heap (upd ρ k loc) (sub n) u := by
    intro n u _ _
    rw [e5 n]; unfold ConcV; trivial
  have hstep : ∀ x u, ConcV w (Imm E w st.heap ρ) st.heap ρ x u → ConcV w' (Imm E w' (st.new k ab).heap (upd ρ k loc)) (st.new k ab).heap (upd ρ k loc) (x.ren keep sub) u :=
    fun x u hx => ConcV.step hI hk hs x u hx
  refine ⟨?_, fun x u hx hn => by have := hstep x u hx; rwa [e6 x hn] at this, hI⟩
  have hmain : Conc E ⟨AV.renL keep sub st.tmps, (st.new k ab).heap⟩ a w' (upd ρ k loc) := by
    refine hc.trans keep sub (st.new k ab).heap (upd ρ k loc) w' hsz hown (fun b hb _ => hbl b hb) hk hs ?_ ?_ ?_ ?_ ?_
    · intro n x hn
      rw [e2 n] at hn
      by_cases e : n = k
      · subst e
        rw [if_pos rfl] at hn
        simp only [Option.some.injEq] at hn
        subst hn
        exact hab keep sub e3 e5 hstep hI (fun l us hl => ConcVs.step hI hk hs l us hl)
      · rw [if_neg e] at hn
        cases hx : hget st.heap n with
        | none => rw [hx] at hn; cases hn
        | some y =>
          rw [hx] at hn
          simp only [Option.map_some, Option.some.injEq] at hn
          subst hn
          refine BlockOk.step hI hk hs (hc.blk n y hx) (upd_other e) (fun g c hr => hbl g ?_)
          exact hc.lt ⟨n, y, c, hx, hr⟩
    · intro n n' x x' g c c' hn hn' hr hr'
      by_cases e : n = k
      · by_cases e' : n' = k
        · rw [e, e']
        · exfalso
          subst e
          rw [upd_same] at hr
          rw [upd_other e'] at hr'
          have h1 := hloc g c hr
          rw [e2 n', if_neg e'] at hn'
          cases hx : hget st.heap n' with
          | none => rw [hx] at hn'; cases hn'
          | some y => have := hc.lt ⟨n', y, c', hx, hr'⟩; omega
      · by_cases e' : n' = k
        · exfalso
          subst e'
          rw [upd_same] at hr'
          rw [upd_other e] at hr
          have h1 := hloc g c' hr'
          rw [e2 n, if_neg e] at hn
          cases hx : hget st.heap n with
          | none => rw [hx] at hn; cases hn
          | some y => have := hc.lt ⟨n, y, c, hx, hr⟩; omega
        · rw [upd_other e] at hr
          rw [upd_other e'] at hr'
          rw [e2 n, if_neg e] at hn
          rw [e2 n', if_neg e'] at hn'
          cases hx : hget st.heap n with
          | none => rw [hx] at hn; cases hn
          | some y =>
            cases hx' : hget st.heap n' with
            | none => rw [hx'] at hn'; cases hn'
            | some y' => exact hc.inj n n' y y' g c c' hx hx' hr hr'
    · rcases hw with ⟨rfl, _⟩ | ⟨o, g, c, rfl, _⟩ <;> rfl
    · rcases hw with ⟨rfl, _⟩ | ⟨o, g, c, rfl, _⟩ <;> rfl
    · rcases hw with ⟨rfl, _⟩ | ⟨o, g, c, rfl, _⟩ <;> rfl
  rw [e1]
  exact hmain
end
end Go.Proofs.Ai

set_option linter.unusedVariables false
set_option linter.constructorNameAsVariable false
namespace Go.Proofs.Ai
open Go.RowKit

/-! ### 6. Types -/
def zeroB : CT → Value → Bool
  | .i k, .int k' n => decide (k = k') && decide (n = 0)
  | .b, .bool b => !b
  | .s, .string s => decide (s.size = 0)
  | .one, v => v.oneCell'
  | .l _, .slice none 0 0 => true
  | _, _ => false
def zerosB : List CC → List Value → Bool
  | [], [] => true
  | c :: cs, v :: vs => zeroB c.c v && zerosB cs vs
  | _, _ => false
def aggD : TypeDesc → Bool
  | .struct _ => true
  | .array _ _ => true
  | _ => false
def scD : CT → TypeDesc → Bool
  | .i k, .int k' => decide (k = k')
  | .b, .bool => true
  | .s, .string => true
  | .one, .pointer _ => true
  | .one, .func _ _ _ => true
  | _, _ => false
/-- what the interpreter says of a type is so -/
def TIOk (P : Program) (t : TypeId) : TI → Prop
  | .sc c => ∃ d i z, P.underlying t = some d ∧ scD c d = true ∧ P.info? t = some i ∧ i.size = 1 ∧ i.zero = some z ∧ zerosB [⟨c, 0⟩] z.cells.toList = true ∧ aggD d = false
  | .st fs => ∃ pfs i zs, P.underlying t = some (.struct pfs) ∧ pfs.size = fs.length ∧ P.info? t = some i ∧ i.size = (fs.flatMap (·.2)).length ∧ i.zero = some (.agg zs) ∧ zerosB (fs.flatMap (·.2)) zs.toList = true ∧
      ∀ j f, pfs[j]? = some f → ∃ g i', fieldOff fs j = some f.offset ∧ fs[j]? = some g ∧ P.info? f.type = some i' ∧ i'.size = g.2.length ∧ g.2.length ≠ 0
  | .sl e agg ces by_ => ∃ i i' z, P.underlying t = some (.slice e) ∧ P.info? t = some i ∧ i.size = 1 ∧ i.zero = some (.slice none 0 0) ∧ P.info? e = some i' ∧ i'.size = ces.length ∧ ces.length ≠ 0 ∧ i'.bytes = by_ ∧ i'.zero = some z ∧ zerosB ces z.cells.toList = true
  | _ => True

section
variable {E : Env} {st : St} {a : Act} {w w' : World} {h h' : Heap} {ρ ρ' : Rho} {I : Bool → Nat → Prop}

theorem zero_ok {c : CT} {v : Value} (hz : zeroB c v = true) : ConcV w I h ρ (zeroAV c) v := by
  cases c with
  | any k => cases v <;> simp [zeroB] at hz
  | ptr cs => cases v <;> simp [zeroB] at hz
  | clo fn cs => cases v <;> simp [zeroB] at hz
  | one => unfold zeroAV ConcV; simpa [zeroB] using hz
  | i k =>
    cases v <;> simp only [zeroB, Bool.and_eq_true, decide_eq_true_eq] at hz <;> try (cases hz; done)
    obtain ⟨rfl, rfl⟩ := hz
    unfold zeroAV ConcV
    exact ⟨rfl, by show (Lit.int k 0).wf = true; cases k <;> rfl⟩
  | b =>
    cases v <;> simp only [zeroB] at hz <;> try (cases hz; done)
    rename_i b
    cases b <;> simp at hz
    unfold zeroAV ConcV
    exact ⟨rfl, trivial⟩
  | s =>
    cases v <;> simp only [zeroB, decide_eq_true_eq] at hz <;> try (cases hz; done)
    rename_i s
    have : s = ByteArray.empty := by
      cases s with | mk d => simp [ByteArray.size] at hz; subst hz; rfl
    subst this
    unfold zeroAV ConcV
    exact ⟨rfl, Nat.zero_le _⟩
  | l cs =>
    unfold zeroB at hz
    split at hz <;> simp_all
    unfold zeroAV ConcV
    rfl
theorem zeros_ok : ∀ {ces : List CC} {vs : List Value}, zerosB ces vs = true → ConcVs w I h ρ (ces.map fun ce => zeroAV ce.c) vs
  | [], [], _ => by unfold ConcVs; trivial
  | c :: cs, v :: vs, hz => by
    simp only [zerosB, Bool.and_eq_true] at hz
    show ConcVs w I h ρ (zeroAV c.c :: _) (v :: vs)
    unfold ConcVs
    exact ⟨zero_ok hz.1, zeros_ok hz.2⟩
  | [], _ :: _, hz => by simp [zerosB] at hz
  | _ :: _, [], hz => by simp [zerosB] at hz
theorem zerosB_length : ∀ {ces : List CC} {vs : List Value}, zerosB ces vs = true → ces.length = vs.length
  | [], [], _ => rfl
  | c :: cs, v :: vs, hz => by simp only [zerosB, Bool.and_eq_true] at hz; simp [zerosB_length hz.2]
  | [], _ :: _, hz => by simp [zerosB] at hz
  | _ :: _, [], hz => by simp [zerosB] at hz

/-! ### 7. Reading -/
theorem cellsAV_cons {fr : Bool} {c : CT} {cs : List CT} {x : CT.denL (c :: cs)} : cellsAV fr (c :: cs) x = cellAV fr c (hd x) :: cellsAV fr cs (tl x) := by
  cases cs with
  | nil => simp [cellsAV, hd]
  | cons d cs => simp [cellsAV, hd, tl]
mutual
theorem cellAV_ok {fr : Bool} : (c : CT) → (x : c.den) → (u : Value) → Rep w (I fr) c x u → ConcV w I h ρ (cellAV fr c x) u
  | .i k, x, u, hr => by unfold Rep at hr; obtain ⟨rfl, hk⟩ := hr; unfold cellAV ConcV; exact ⟨rfl, hk⟩
  | .any k, x, u, hr => by unfold Rep at hr; unfold cellAV ConcV; exact hr
  | .one, x, u, hr => by unfold Rep at hr; unfold cellAV ConcV; exact hr
  | .b, x, u, hr => by unfold Rep at hr; subst hr; unfold cellAV ConcV; exact ⟨rfl, trivial⟩
  | .s, x, u, hr => by unfold Rep at hr; obtain ⟨rfl, hk⟩ := hr; unfold cellAV ConcV; exact ⟨rfl, hk⟩
  | .l cs, x, u, hr => by unfold cellAV ConcV; exact hr
  | .ptr cs, x, u, hr => by unfold Rep at hr; unfold cellAV ConcV; exact hr
  | .clo fn cs, x, u, hr => by
    unfold Rep at hr
    obtain ⟨us, e, hm⟩ := hr
    unfold cellAV ConcV
    exact ⟨us, e, cellsM_ok cs x us hm⟩
theorem cellsM_ok {fr : Bool} : (cs : List CT) → (x : CT.denL cs) → (us : List Value) → RepM w (I fr) cs x us → ConcVs w I h ρ (cellsAV fr cs x) us
  | [], x, us, hr => by unfold RepM at hr; subst hr; unfold cellsAV ConcVs; trivial
  | [c], x, us, hr => by
    unfold RepM at hr
    obtain ⟨u, rfl, h1⟩ := hr
    unfold cellsAV ConcVs
    exact ⟨cellAV_ok c x u h1, by unfold ConcVs; trivial⟩
  | c :: d :: cs, x, us, hr => by
    unfold RepM at hr
    obtain ⟨u, r, rfl, h1, h2⟩ := hr
    unfold cellsAV ConcVs
    exact ⟨cellAV_ok c x.1 u h1, cellsM_ok (d :: cs) x.2 r h2⟩
end
theorem cellsAV_ok {fr : Bool} : {cs : List CT} → {x : CT.denL cs} → {b off : Nat} → RepL w (I fr) cs x b off →
    ∃ us : List Value, us.length = cs.length ∧ (∀ j v, us[j]? = some v → w.cell? ⟨b, off + j, none⟩ = some v) ∧ ConcVs w I h ρ (cellsAV fr cs x) us
  | [], x, b, off, _ => ⟨[], rfl, fun j v hj => by simp at hj, by unfold cellsAV ConcVs; trivial⟩
  | c :: cs, x, b, off, hr => by
    rw [RepL_cons] at hr
    obtain ⟨⟨u, h1, h2⟩, h3⟩ := hr
    obtain ⟨us, l1, l2, l3⟩ := cellsAV_ok h3
    refine ⟨u :: us, by simp [l1], fun j v hj => ?_, ?_⟩
    · cases j with
      | zero => simp at hj; subst hj; exact h1
      | succ j =>
        have := l2 j v (by simpa using hj)
        rwa [show off + 1 + j = off + (j + 1) from by omega] at this
    · rw [cellsAV_cons]
      unfold ConcVs
      exact ⟨cellAV_ok _ _ _ h2, l3⟩

theorem ConcVs_drop : ∀ {l : List AV} {us : List Value} (n : Nat), ConcVs w I h ρ l us → ConcVs w I h ρ (l.drop n) (us.drop n)
  | l, us, 0, hc => by simpa using hc
  | [], [], n + 1, hc => by simpa using hc
  | x :: l, u :: us, n + 1, hc => by unfold ConcVs at hc; simpa using ConcVs_drop n hc.2
  | [], _ :: _, _, hc => by unfold ConcVs at hc; exact hc.elim
  | _ :: _, [], _, hc => by unfold ConcVs at hc; exact hc.elim
theorem ConcVs_take : ∀ {l : List AV} {us : List Value} (n : Nat), ConcVs w I h ρ l us → ConcVs w I h ρ (l.take n) (us.take n)
  | l, us, 0, hc => by simp; unfold ConcVs; trivial
  | [], [], n + 1, hc => by simpa using hc
  | x :: l, u :: us, n + 1, hc => by
    unfold ConcVs at hc
    show ConcVs w I h ρ (x :: l.take n) (u :: us.take n)
    unfold ConcVs
    exact ⟨hc.1, ConcVs_take n hc.2⟩
  | [], _ :: _, _, hc => by unfold ConcVs at hc; exact hc.elim
  | _ :: _, [], _, hc => by unfold ConcVs at hc; exact hc.elim

theorem cell_at {g : Nat} {cur : Array Value} {T : TypeId} {fz : Nat × Nat} (hg : w.heap[g]? = some (.cells cur T fz)) (j : Nat) : w.cell? ⟨g, j, none⟩ = cur[j]? := by
  simp [World.cell?, hg]

theorem atPtr_ok (hb : ∀ k ab, hget h k = some ab → BlockOk E w h ρ k ab) {x : AV} {l : List AV} {u : Value} (hx : ConcV w (Imm E w h ρ) h ρ x u) (hl : atPtr h x = some l) :
    ∃ b off us, u = .pointer (some ⟨b, off, none⟩) ∧ b < w.heap.size ∧ ConcVs w (Imm E w h ρ) h ρ l us ∧ ∀ j v, us[j]? = some v → w.cell? ⟨b, off + j, none⟩ = some v := by
  cases x <;> simp only [atPtr] at hl <;> try (cases hl; done)
  case p k off =>
    unfold ConcV at hx
    obtain ⟨cells, g, c, h1, h2, rfl⟩ := hx
    rw [h1] at hl
    simp only [Option.some.injEq] at hl
    subst hl
    obtain ⟨g', c', T, cur, e1, e2, e3, e4⟩ := hb k _ h1
    rw [h2] at e1
    simp only [Option.some.injEq, Prod.mk.injEq] at e1
    obtain ⟨rfl, rfl⟩ := e1
    refine ⟨g, off, cur.toList.drop off, rfl, (Array.getElem?_eq_some_iff.1 e3).1, ConcVs_drop off e4, fun j v hj => ?_⟩
    rw [cell_at e3]
    rw [List.getElem?_drop] at hj
    simpa using hj
  case q fr cs y =>
    unfold ConcV at hx
    obtain ⟨b, off, rfl, hI, hr⟩ := hx
    simp only [Option.some.injEq] at hl
    subst hl
    obtain ⟨us, _, l2, l3⟩ := cellsAV_ok (h := h) (ρ := ρ) hr
    exact ⟨b, off, us, rfl, hI.1, l3, l2⟩
  case e k i j =>
    unfold ConcV at hx
    obtain ⟨fr, e, cs, xs, g, c, h1, h2, hi, rfl⟩ := hx
    rw [h1] at hl
    simp only [Option.some.injEq] at hl
    subst hl
    rcases hb k _ h1 with ⟨e1, _⟩ | ⟨g', cap, cur, e1, e2, hfr, e3, e4, e5, e6, e7⟩
    · rw [h2] at e1; cases e1
    · rw [h2] at e1
      simp only [Option.some.injEq, Prod.mk.injEq] at e1
      obtain ⟨rfl, rfl⟩ := e1
      have hy : xs[i]? = some (xs.getD i (CT.dfltL cs)) := by rw [List.getD_eq_getElem?_getD, List.getElem?_eq_getElem hi]; rfl
      obtain ⟨us, _, l2, l3⟩ := cellsAV_ok (h := h) (ρ := ρ) (e7 i _ hy)
      refine ⟨g, i * cs.length + j, us.drop j, rfl, (Array.getElem?_eq_some_iff.1 e3).1, ConcVs_drop j l3, fun n v hn => ?_⟩
      rw [List.getElem?_drop] at hn
      have := l2 _ _ hn
      rwa [show i * cs.length + (j + n) = i * cs.length + j + n from by omega] at this

theorem fieldOff_lt : ∀ {fs : List (Bool × List CC)} {n : Nat} {o : Nat} {f : Bool × List CC}, fieldOff fs n = some o → fs[n]? = some f → o + f.2.length ≤ (fs.flatMap (·.2)).length
  | g :: fs, 0, o, f, h1, h2 => by simp [fieldOff] at h1 h2; subst h1 h2; simp
  | g :: fs, n + 1, o, f, h1, h2 => by
    simp only [fieldOff, Option.map_eq_some_iff] at h1
    obtain ⟨o', h1, rfl⟩ := h1
    have := fieldOff_lt h1 (by simpa using h2)
    simp only [List.flatMap_cons, List.length_append]
    omega
  | [], _, _, _, h1, _ => by simp [fieldOff] at h1

theorem load_ok (hb : ∀ k ab, hget h k = some ab → BlockOk E w h ρ k ab) {t : TypeId} {ti : TI} (ht : TIOk E.P t ti) {x y : AV} {u : Value} (hx : ConcV w (Imm E w h ρ) h ρ x u) (hl : loadE h ti x = some y) :
    ∃ v, (∀ w1, Below w.heap.size w w1 → (Instr.loadAt t u).run E.P w1 = .ok v w1) ∧ ConcV w (Imm E w h ρ) h ρ y v := by
  unfold loadE at hl
  cases hti : ti.cells with
  | none => rw [hti] at hl; simp at hl
  | some p =>
    obtain ⟨agg, ces⟩ := p
    cases hat : atPtr h x with
    | none => rw [hti, hat] at hl; simp at hl
    | some l =>
      rw [hti, hat] at hl
      obtain ⟨b, off, us, rfl, hbl, hc, hcell⟩ := atPtr_ok hb hx hat
      cases agg with
      | true =>
        simp only at hl
        split at hl
        · rename_i hle
          simp only [Option.some.injEq] at hl
          subst hl
          -- a struct
          cases ti <;> simp [TI.cells] at hti
          rename_i fs
          obtain ⟨pfs, i, zs, h1, h2, h3, h4, h5, h6, h7⟩ := ht
          subst hti
          generalize hN : (fs.flatMap (·.2)).length = N at *
          have hlen : (us.take N).length = N := by
            rw [List.length_take, ← ConcVs_length hc]; omega
          refine ⟨.agg (us.take N).toArray, ?_, ?_⟩
          · intro w1 hw1
            have hr := run_loadCells_list (P := E.P) w1 ⟨b, off, none⟩ (us.take N) (fun j v hj => by
              rw [Addr.add_lit, hw1.cell hbl]
              refine hcell j v ?_
              rw [List.getElem?_take] at hj
              split at hj
              · exact hj
              · cases hj)
            rw [hlen] at hr
            simp [Instr.loadAt, Instr.sureAddr, loadVar, isAgg, run_underlying h1, sizeOf, typeInfo, h3, h4, hr]
          · unfold ConcV
            exact ⟨_, rfl, ConcVs_take _ hc⟩
        · cases hl
      | false =>
        match ces, l, hl with
        | [_], y' :: l', hl =>
          simp only [Option.some.injEq] at hl
          subst hl
          cases us with
          | nil => unfold ConcVs at hc; exact hc.elim
          | cons v us =>
            unfold ConcVs at hc
            refine ⟨v, ?_, hc.1⟩
            intro w1 hw1
            have h0 := hcell 0 v (by simp)
            rw [Nat.add_zero, ← hw1.cell hbl] at h0
            have hagg : ∃ d, E.P.underlying t = some d ∧ aggD d = false := by
              cases ti <;> simp [TI.cells] at hti
              · obtain ⟨d, i, z, h1, h2, h3, h4, h5, h6, h7⟩ := ht; exact ⟨d, h1, h7⟩
              · obtain ⟨i, i', z, h1, _⟩ := ht; exact ⟨_, h1, rfl⟩
            obtain ⟨d, hd, hagg⟩ := hagg
            cases d <;> simp [aggD] at hagg <;> simp [Instr.loadAt, Instr.sureAddr, loadVar, isAgg, run_underlying hd, h0]
        | [], _, hl => simp at hl
        | _ :: _ :: _, _, hl => simp at hl
        | [_], [], hl => simp at hl
end
end Go.Proofs.Ai

set_option linter.unusedVariables false
set_option linter.constructorNameAsVariable false
namespace Go.Proofs.Ai
open Go.RowKit

section
variable {E : Env} {st : St} {a : Act} {w w' : World} {h h' : Heap} {ρ ρ' : Rho} {I : Bool → Nat → Prop}

theorem Rep_l {F : Nat → Prop} {cs : List CT} {xs : List (CT.denL cs)} {u : Value} : Rep w F (.l cs) xs u ↔ ∃ a cap, u = .slice a xs.length cap ∧ xs.length ≤ cap ∧ cap ≤ maxLen ∧ (a = none → cap = 0) ∧
      (xs ≠ [] → ∃ b off, a = some ⟨b, off, none⟩ ∧ F b ∧ ∀ i y, xs[i]? = some y → RepL w F cs y b (off + i * cs.length)) := Iff.rfl
theorem dropD_ok {F : Nat → Prop} : ∀ (n : Nat) {cs : List CT} {x : CT.denL cs} {b off : Nat}, RepL w F cs x b off → RepL w F (dropD n x).1 (dropD n x).2 b (off + n)
  | 0, cs, x, b, off, hr => hr
  | n + 1, [], x, b, off, hr => by show RepL w F [] x b _; unfold RepL; trivial
  | n + 1, c :: cs, x, b, off, hr => by
    show RepL w F (dropD n (tl x)).1 (dropD n (tl x)).2 b (off + (n + 1))
    rw [RepL_cons] at hr
    have := dropD_ok n hr.2
    rwa [show off + 1 + n = off + (n + 1) from by omega] at this

theorem fieldAddr_ok {t : TypeId} {ti : TI} (ht : TIOk E.P t ti) {x y : AV} {u : Value} {n : Nat} (hx : ConcV w I h ρ x u) (hl : fieldAddrE ti x n = some y) :
    ∃ v, (∀ w1, (Instr.fieldAt t u n).run E.P w1 = .ok v w1) ∧ ConcV w I h ρ y v := by
  cases ti <;> simp only [fieldAddrE] at hl <;> try (cases hl; done)
  rename_i fs
  obtain ⟨pfs, i, zs, h1, h2, h3, h4, h5, h6, h7⟩ := ht
  cases ho : fieldOff fs n with
  | none => rw [ho] at hl; simp at hl
  | some o =>
    rw [ho] at hl
    simp only at hl
    have hn : n < pfs.size := by
      rw [h2]
      revert ho
      clear h1 h2 h3 h4 h5 h6 h7 hl
      induction fs generalizing n o with
      | nil => intro ho; simp [fieldOff] at ho
      | cons f fs ih =>
        intro ho
        cases n with
        | zero => simp
        | succ n =>
          simp only [fieldOff, Option.map_eq_some_iff] at ho
          obtain ⟨o', ho, _⟩ := ho
          have := ih (n := n) (o := o') ho
          simp; omega
    obtain ⟨f, hf⟩ : ∃ f, pfs[n]? = some f := ⟨pfs[n], by simp [hn]⟩
    obtain ⟨g, i', e1, e2, e3, e4, e5⟩ := h7 n f hf
    rw [ho] at e1
    simp only [Option.some.injEq] at e1
    subst e1
    have hrun : ∀ b off, u = .pointer (some ⟨b, off, none⟩) → ∀ w1, (Instr.fieldAt t u n).run E.P w1 = .ok (.pointer (some ⟨b, off + f.offset, none⟩)) w1 := by
      rintro b off rfl w1
      have hz : i'.size ≠ 0 := by rw [e4]; exact e5
      simp [Instr.fieldAt, run_underlying h1, hf, Instr.sureAddr, fieldPlace, sizeOf, typeInfo, e3, hz, Addr.add_lit]
    cases x <;> (try simp only at hl) <;> try (cases hl; done)
    case p k off =>
      simp only [Option.some.injEq] at hl
      subst hl
      unfold ConcV at hx
      obtain ⟨cells, g', c, g1, g2, g3⟩ := hx
      exact ⟨_, hrun _ _ g3, by unfold ConcV; exact ⟨cells, g', c, g1, g2, rfl⟩⟩
    case q fr cs z =>
      unfold ConcV at hx
      obtain ⟨b, off, hu, hI, hr⟩ := hx
      have hd := dropD_ok f.offset hr
      cases hdd : dropD f.offset z with
      | mk cs' z' =>
        rw [hdd] at hl hd
        simp only [Option.some.injEq] at hl
        subst hl
        exact ⟨_, hrun _ _ hu, by unfold ConcV; exact ⟨b, _, rfl, hI, hd⟩⟩
    case e k i j =>
      simp only [Option.some.injEq] at hl
      subst hl
      unfold ConcV at hx
      obtain ⟨fr, e, cs, xs, g', c, g1, g2, g3, g4⟩ := hx
      refine ⟨_, hrun _ _ g4, ?_⟩
      unfold ConcV
      exact ⟨fr, e, cs, xs, g', c, g1, g2, g3, by rw [Nat.add_assoc]⟩

theorem getD_of_lt {α : Type} {xs : List α} {i : Nat} {d : α} (hi : i < xs.length) : xs[i]? = some (xs.getD i d) := by
  rw [List.getD_eq_getElem?_getD, List.getElem?_eq_getElem hi]; rfl

theorem indexAddr_ok (hb : ∀ k ab, hget h k = some ab → BlockOk E w h ρ k ab) {t : TypeId} {ti : TI} (ht : TIOk E.P t ti) {x y i : AV} {u v : Value} {c : Bool}
    (hx : ConcV w (Imm E w h ρ) h ρ x u) (hi : ConcV w (Imm E w h ρ) h ρ i v) (hl : indexAddrE h ti x i = some (c, y)) (hc : c = true) :
    ∃ r, (∀ w1, (Instr.indexAt t u v).run E.P w1 = .ok r w1) ∧ ConcV w (Imm E w h ρ) h ρ y r := by
  subst hc
  cases ti <;> simp only [indexAddrE] at hl <;> try (cases hl; done)
  rename_i e agg ces by_
  obtain ⟨i1, i2, z, h1, h2, h3, h4, h5, h6, h7, h8, h9, h10⟩ := ht
  cases i <;> (try simp only at hl) <;> try (cases hl; done)
  rename_i iv
  cases iv <;> (try simp only at hl) <;> try (cases hl; done)
  rename_i k n
  unfold ConcV at hi
  obtain ⟨rfl, hin⟩ := hi
  have hrun : ∀ b off len cap, u = .slice (some ⟨b, off, none⟩) len cap → 0 ≤ n → n < len → ∀ w1, (Instr.indexAt t u (.int k n)).run E.P w1 = .ok (.pointer (some ⟨b, off + n.toNat * ces.length, none⟩)) w1 := by
    rintro b off len cap rfl h0 hlt w1
    simp [Instr.indexAt, asIntOf, run_underlying h1, h0, hlt, sizeOf, typeInfo, h5, h6, Addr.add_lit]
  cases x <;> (try simp only at hl) <;> try (cases hl; done)
  case d fr cs xs =>
    split at hl
    · rename_i hcs
      simp only [Option.some.injEq, Prod.mk.injEq, Bool.and_eq_true, decide_eq_true_eq] at hl
      obtain ⟨⟨h0, hlt⟩, rfl⟩ := hl
      unfold ConcV at hx
      rw [Rep_l] at hx
      obtain ⟨ad, cap, rfl, hcap, _, _, hne⟩ := hx
      have hlt' : n.toNat < xs.length := by omega
      have hne' : xs ≠ [] := by intro e; subst e; simp at hlt'
      obtain ⟨b, off, rfl, hI, hcell⟩ := hne hne'
      refine ⟨_, hrun b off _ cap rfl h0 hlt, ?_⟩
      unfold ConcV
      refine ⟨b, _, rfl, hI, ?_⟩
      rw [← hcs]
      exact hcell n.toNat _ (getD_of_lt hlt')
    · cases hl
  case o kk =>
    unfold ConcV at hx
    obtain ⟨fr, e', cs, xs, hg, rfl⟩ := hx
    rw [hg] at hl
    simp only at hl
    split at hl
    · rename_i hcs
      simp only [Option.some.injEq, Prod.mk.injEq, Bool.and_eq_true, decide_eq_true_eq] at hl
      obtain ⟨⟨h0, hlt⟩, rfl⟩ := hl
      have hlt' : n.toNat < xs.length := by omega
      rcases hb kk _ hg with ⟨e1, e2⟩ | ⟨g', cap, cur, e1, _⟩
      · subst e2; simp at hlt'
      · refine ⟨_, hrun g' 0 xs.length cap (by rw [e1]; rfl) h0 hlt, ?_⟩
        unfold ConcV
        exact ⟨fr, e', cs, xs, g', cap, hg, e1, hlt', by rw [hcs]; simp⟩
    · cases hl

theorem len_ok (hb : ∀ k ab, hget h k = some ab → BlockOk E w h ρ k ab) {x : AV} {u : Value} {n : Int} (hx : ConcV w (Imm E w h ρ) h ρ x u) (hl : lenE h x = some n) :
    (∃ s : ByteArray, u = .string s ∧ n = s.size ∧ s.size ≤ maxLen) ∨ ∃ a l c, u = .slice a l c ∧ n = l ∧ l ≤ maxLen := by
  cases x <;> simp only [lenE] at hl <;> try (cases hl; done)
  case v y =>
    cases y <;> (try simp only at hl) <;> try (cases hl; done)
    unfold ConcV at hx
    simp only [Option.some.injEq] at hl
    exact .inl ⟨_, hx.1, hl.symm, hx.2⟩
  case z =>
    unfold ConcV at hx
    simp only [Option.some.injEq] at hl
    exact .inr ⟨_, _, _, hx, hl.symm, Nat.zero_le _⟩
  case d fr cs xs =>
    simp only [Option.some.injEq] at hl
    unfold ConcV at hx
    rw [Rep_l] at hx
    obtain ⟨ad, cap, rfl, h1, h2, _⟩ := hx
    exact .inr ⟨_, _, _, rfl, hl.symm, Nat.le_trans h1 h2⟩
  case o k =>
    unfold ConcV at hx
    obtain ⟨fr, e, cs, xs, hg, rfl⟩ := hx
    rw [hg] at hl
    simp only [Option.some.injEq] at hl
    rcases hb k _ hg with ⟨e1, e2⟩ | ⟨g', cap, cur, e1, _, _, _, e3, e4, _⟩
    · rw [e1]; subst e2; exact .inr ⟨_, _, _, rfl, by simpa using hl.symm, Nat.zero_le _⟩
    · rw [e1]; exact .inr ⟨_, _, _, rfl, hl.symm, Nat.le_trans e3 e4⟩

theorem intOk_iff (k : IntKind) (n : Int) : IntOk k n ↔ k.min ≤ n ∧ n ≤ k.max := by
  unfold IntOk
  cases k <;> simp [Lit.wf]
theorem intOk_wrap (k : IntKind) (n : Int) : IntOk k (k.wrap n) := by
  rw [intOk_iff]
  cases k <;> simp [IntKind.wrap, IntKind.min, IntKind.max, IntKind.signed, IntKind.bits] <;> (try split) <;> omega

end
end Go.Proofs.Ai

set_option linter.unusedVariables false
set_option linter.constructorNameAsVariable false
namespace Go.Proofs.Ai
open Go.RowKit

section
variable {E : Env} {P : Program} {st : St} {a : Act} {w w' : World} {h h' : Heap} {ρ ρ' : Rho} {I : Bool → Nat → Prop}

theorem tmod_le {a : Int} (h0 : 0 ≤ a) (b : Int) : a.tmod b ≤ a := by
  obtain ⟨n, rfl⟩ := Int.eq_ofNat_of_zero_le h0
  have e : ((n : Int)).tmod b = ((n % b.natAbs : Nat) : Int) := by
    cases b with
    | ofNat m => rfl
    | negSucc m => rfl
  rw [e]
  exact_mod_cast Nat.mod_le n _
theorem intOk_tmod {k : IntKind} {a b : Int} (ha : IntOk k a) : IntOk k (a.tmod b) := by
  rw [intOk_iff] at ha ⊢
  have h1 : k.min ≤ 0 ∧ 0 ≤ k.max := by cases k <;> simp [IntKind.min, IntKind.max, IntKind.signed, IntKind.bits]
  rcases Int.le_total 0 a with h0 | h0
  · have := Int.tmod_nonneg b h0
    have h2 : a.tmod b ≤ a := tmod_le h0 b
    omega
  · have e : a.tmod b = -((-a).tmod b) := by rw [Int.neg_tmod]; omega
    have h3 : 0 ≤ -a := by omega
    have := Int.tmod_nonneg b h3
    have h2 : (-a).tmod b ≤ -a := tmod_le h3 b
    omega
theorem intOk_fdiv {k : IntKind} {a : Int} (n : Nat) (ha : IntOk k a) : IntOk k (a.fdiv (2 ^ n)) := by
  rw [intOk_iff] at ha ⊢
  have h1 : k.min ≤ 0 ∧ 0 ≤ k.max := by cases k <;> simp [IntKind.min, IntKind.max, IntKind.signed, IntKind.bits]
  have hp : (0 : Int) < 2 ^ n := Int.pow_pos (by decide)
  rw [Int.fdiv_eq_ediv_of_nonneg a (Int.le_of_lt hp)]
  have h2 : (1 : Int) ≤ 2 ^ n := hp
  rcases Int.le_total 0 a with h0 | h0
  · have h3 := Int.ediv_nonneg h0 (Int.le_of_lt hp)
    have h4 := Int.ediv_le_self (2 ^ n) h0
    omega
  · have h3 : a / 2 ^ n ≤ 0 := by
      have := Int.ediv_le_ediv hp h0
      simpa using this
    have h4 : a ≤ a / 2 ^ n := by
      rw [Int.le_ediv_iff_mul_le hp]
      have h5 : a * 2 ^ n ≤ a * 1 := Int.mul_le_mul_of_nonpos_left h0 h2
      omega
    omega

theorem conc_v {x : Value} (hx : VOk x) : ConcV w I h ρ (.v x) x := by unfold ConcV; exact ⟨rfl, hx⟩

theorem bin_ok {op : BinOp} {t : TypeId} {X Y : Operand} {x y z : AV} {u v : Value} {c : Bool} (hx : ConcV w I h ρ x u) (hy : ConcV w I h ρ y v) (hl : binE op x y = some (c, z)) (hc : c = true) :
    ∃ r, (∀ w1, (do eqGuard op t X Y u v; binOp op t u v : Sem Value).run P w1 = .ok r w1) ∧ ConcV w I h ρ z r := by
  subst hc
  unfold binE at hl
  split at hl
  · rename_i k a k' b
    unfold ConcV at hx hy
    obtain ⟨rfl, hx⟩ := hx
    obtain ⟨rfl, hy⟩ := hy
    have hg : ∀ (op : BinOp) (w : World), (eqGuard op t X Y (.int k a) (.int k' b)).run P w = .ok () w := by
      intro op w
      unfold eqGuard
      split <;> simp
    have key : ∀ r, (∀ w, (binOp op t (.int k a) (.int k' b)).run P w = .ok r w) → ∀ w, (do eqGuard op t X Y (.int k a) (.int k' b); binOp op t (.int k a) (.int k' b) : Sem Value).run P w = .ok r w := by
      intro r hr w
      simp [Sem.run_bind, hg, hr]
    cases op <;> simp only at hl <;> (try split at hl) <;> (try (cases hl; done)) <;> simp only [Option.some.injEq, Prod.mk.injEq, decide_eq_true_eq, Bool.not_eq_true', decide_eq_false_iff_not] at hl <;> obtain ⟨hc, rfl⟩ := hl
    all_goals (try (rename_i hkk; subst hkk))
    all_goals refine ⟨_, key _ ?_, conc_v ?_⟩
    all_goals first
      | exact intOk_wrap _ _
      | exact intOk_fdiv _ hx
      | exact intOk_tmod hx
      | exact trivial
      | (intro w1; simp [binOp, Op.intArith]; done)
      | (intro w1; simp [binOp, Op.intBits]; done)
      | (intro w1; simp [binOp, Op.intCmp]; done)
      | (intro w1; simp [binOp, Op.intDiv, hc]; done)
      | (have hb0 : ¬ b < 0 := by omega
         intro w1; simp [binOp, Op.shift, hb0]; done)
  · cases hl

theorem un_ok {op : UnOp} {x z : AV} {u : Value} (hx : ConcV w I h ρ x u) (hl : unE op x = some z) :
    ∃ r, (∀ w1, (Op.unary op u).run P w1 = .ok r w1) ∧ ConcV w I h ρ z r := by
  unfold unE at hl
  split at hl
  · simp only [Option.some.injEq] at hl
    subst hl
    unfold ConcV at hx
    obtain ⟨rfl, hx⟩ := hx
    refine ⟨_, ?_, conc_v trivial⟩
    intro w1; simp [Op.unary]
  · simp only [Option.some.injEq] at hl
    subst hl
    unfold ConcV at hx
    obtain ⟨rfl, hx⟩ := hx
    refine ⟨_, ?_, conc_v (intOk_wrap _ _)⟩
    intro w1; simp [Op.unary, Op.intArith]
  · cases hl

theorem pick_ok {c x y z : AV} {b u v : Value} (hcc : ConcV w I h ρ c b) (hx : ConcV w I h ρ x u) (hy : ConcV w I h ρ y v) (hl : pickE c x y = some z) :
    ∃ q, b = .bool q ∧ ConcV w I h ρ z (if q then u else v) := by
  unfold pickE at hl
  split at hl
  · rename_i q
    unfold ConcV at hcc
    obtain ⟨rfl, _⟩ := hcc
    refine ⟨q, rfl, ?_⟩
    split at hl
    · rename_i p r
      simp only [Option.some.injEq] at hl
      subst hl
      unfold ConcV at hx hy ⊢
      obtain ⟨rfl, _⟩ := hx
      obtain ⟨rfl, _⟩ := hy
      cases q <;> exact ⟨rfl, trivial⟩
    · rename_i k p k' r
      split at hl
      · rename_i hk
        subst hk
        simp only [Option.some.injEq] at hl
        subst hl
        unfold ConcV at hx hy ⊢
        obtain ⟨rfl, h1⟩ := hx
        obtain ⟨rfl, h2⟩ := hy
        cases q
        · exact ⟨rfl, h2⟩
        · exact ⟨rfl, h1⟩
      · simp only [Option.some.injEq] at hl
        subst hl
        cases q
        · exact hy
        · exact hx
    · simp only [Option.some.injEq] at hl
      subst hl
      cases q
      · exact hy
      · exact hx
  · cases hl
end
end Go.Proofs.Ai

set_option linter.unusedVariables false
set_option linter.constructorNameAsVariable false
namespace Go.Proofs.Ai
open Go.RowKit

section
variable {E : Env} {P : Program} {st : St} {a : Act} {w w' : World} {h h' : Heap} {ρ ρ' : Rho} {I : Bool → Nat → Prop}

/-! ### 8. Nil slices get a name -/
theorem new_shape (st : St) (k : Nat) (b : AB) {n : Nat} (hn : n ≠ k) {ab : AB} (hg : hget st.heap n = some ab) : ∃ ab', hget (st.new k b).heap n = some ab' ∧ SameShape ab ab' := by
  obtain ⟨keep, sub, _, e2, _⟩ := new_heap st k b
  exact ⟨ab.ren keep sub, by rw [e2 n, if_neg hn, hg]; rfl, AB.ren_shape _ _ _⟩
theorem new_sl (st : St) (k : Nat) (fr : Bool) (e : TypeId) (cs : List CT) (xs : List (CT.denL cs)) : hget (st.new k (.sl fr e cs xs)).heap k = some (.sl fr e cs xs) := by
  obtain ⟨keep, sub, _, e2, _⟩ := new_heap st k (.sl fr e cs xs)
  rw [e2 k, if_pos rfl]; rfl
theorem new_get_sl (st : St) (k : Nat) (b : AB) {n : Nat} (hn : n ≠ k) {fr : Bool} {e : TypeId} {cs : List CT} {xs : List (CT.denL cs)} (hg : hget st.heap n = some (.sl fr e cs xs)) : hget (st.new k b).heap n = some (.sl fr e cs xs) := by
  obtain ⟨keep, sub, _, e2, _⟩ := new_heap st k b
  rw [e2 n, if_neg hn, hg]; rfl

theorem Conc.newNil (hc : Conc E st a w ρ) (k : Nat) (e : TypeId) (cs : List CT) :
    Conc E (st.new k (.sl true e cs [])) a w (upd ρ k none) ∧
      (∀ x u, ConcV w (Imm E w st.heap ρ) st.heap ρ x u → k ∉ x.names → ConcV w (Imm E w (st.new k (.sl true e cs [])).heap (upd ρ k none)) (st.new k (.sl true e cs [])).heap (upd ρ k none) x u) := by
  have := hc.new k (.sl true e cs []) none w (.inl ⟨rfl, rfl⟩) (fun keep sub _ _ _ _ _ => .inl ⟨upd_same _ _ _, rfl⟩)
  exact ⟨this.1, this.2.1⟩

theorem Conc.empties : ∀ (es : List (Nat × TypeId × List CT)) {st : St} {ρ : Rho}, (es.map (·.1)).Nodup → Conc E st a w ρ →
    ∃ ρ', Conc E (st.empties es) a w ρ' ∧
      (∀ x u, ConcV w (Imm E w st.heap ρ) st.heap ρ x u → (∀ n, n ∈ x.names → n ∉ es.map (·.1)) → ConcV w (Imm E w (st.empties es).heap ρ') (st.empties es).heap ρ' x u) ∧
      (∀ n e cs, (n, e, cs) ∈ es → hget (st.empties es).heap n = some (.sl true e cs []) ∧ ρ' n = none) ∧
      (∀ n, n ∉ es.map (·.1) → ρ' n = ρ n ∧ ∀ ab, hget st.heap n = some ab → ∃ ab', hget (st.empties es).heap n = some ab' ∧ SameShape ab ab')
  | [], st, ρ, _, hc => ⟨ρ, hc, fun x u hx _ => hx, fun n e cs hm => by simp at hm, fun n _ => ⟨rfl, fun ab hg => ⟨ab, hg, SameShape.refl ab⟩⟩⟩
  | (k, e, cs) :: r, st, ρ, hnd, hc => by
    simp only [List.map_cons, List.nodup_cons] at hnd
    obtain ⟨c1, c2⟩ := hc.newNil k e cs
    obtain ⟨ρ', d1, d2, d3, d4⟩ := Conc.empties r hnd.2 c1
    refine ⟨ρ', d1, fun x u hx hn => ?_, fun n e' cs' hm => ?_, fun n hn => ?_⟩
    · refine d2 x u (c2 x u hx (fun hk => hn k hk (by simp))) (fun n hn' hr => hn n hn' ?_)
      simp only [List.map_cons, List.mem_cons]
      exact .inr hr
    · simp only [List.mem_cons, Prod.mk.injEq] at hm
      rcases hm with ⟨rfl, rfl, rfl⟩ | hm
      · obtain ⟨f1, f2⟩ := d4 n hnd.1
        obtain ⟨ab', f3, f4⟩ := f2 _ (new_sl st n true e' cs' [])
        refine ⟨?_, by rw [f1, upd_same]⟩
        -- the content is the very same
        clear f3 f4 f2 f1 d1 d2 d3 d4 c1 c2 hc
        have key : ∀ (r : List (Nat × TypeId × List CT)) (s : St), n ∉ r.map (·.1) → hget s.heap n = some (.sl true e' cs' []) → hget (s.empties r).heap n = some (.sl true e' cs' []) := by
          intro r
          induction r with
          | nil => intro s _ hg; exact hg
          | cons y r ih =>
            intro s hn hg
            obtain ⟨k', e1, cs1⟩ := y
            simp only [List.map_cons, List.mem_cons, not_or] at hn
            exact ih _ hn.2 (new_get_sl s k' _ hn.1 hg)
        exact key r _ hnd.1 (new_sl st n true e' cs' [])
      · exact d3 n e' cs' hm
    · simp only [List.map_cons, List.mem_cons, not_or] at hn
      obtain ⟨f1, f2⟩ := d4 n hn.2
      refine ⟨by rw [f1, upd_other hn.1], fun ab hg => ?_⟩
      obtain ⟨ab1, g1, g2⟩ := new_shape st k (.sl true e cs []) hn.1 hg
      obtain ⟨ab2, g3, g4⟩ := f2 ab1 g1
      refine ⟨ab2, g3, ?_⟩
      cases ab <;> cases ab1 <;> cases ab2 <;> simp_all [SameShape]

theorem fixZ_names : ∀ (n : Nat) (ces : List CC) (l : List AV), (∀ x ∈ (fixZ n ces l).2, n ≤ x.1 ∧ x.1 < n + l.length) ∧ ((fixZ n ces l).2.map (·.1)).Nodup
  | n, [], l => by cases l <;> simp [fixZ]
  | n, ce :: ces, [] => by simp [fixZ]
  | n, ce :: ces, x :: l => by
    obtain ⟨h1, h2⟩ := fixZ_names (n + 1) ces l
    have hz : ∀ e : TypeId × List CT, (∀ y ∈ (n, e) :: (fixZ (n + 1) ces l).2, n ≤ y.1 ∧ y.1 < n + (x :: l).length) ∧ (((n, e) :: (fixZ (n + 1) ces l).2).map (·.1)).Nodup := by
      intro e
      refine ⟨fun y hy => ?_, ?_⟩
      · simp only [List.mem_cons] at hy
        rcases hy with rfl | hy
        · simp
        · have := h1 y hy; simp only [List.length_cons]; omega
      · simp only [List.map_cons, List.nodup_cons]
        refine ⟨fun hm => ?_, h2⟩
        obtain ⟨y, hy, e⟩ := List.mem_map.1 hm
        have := h1 y hy
        omega
    have ho : (∀ y ∈ (fixZ (n + 1) ces l).2, n ≤ y.1 ∧ y.1 < n + (x :: l).length) ∧ ((fixZ (n + 1) ces l).2.map (·.1)).Nodup :=
      ⟨fun y hy => by have := h1 y hy; simp only [List.length_cons]; omega, h2⟩
    cases x <;> first | exact hz _ | exact ho

theorem fixZ_length : ∀ (n : Nat) (ces : List CC) (l : List AV), (fixZ n ces l).1.length = l.length
  | n, [], l => by cases l <;> simp [fixZ]
  | n, ce :: ces, [] => by simp [fixZ]
  | n, ce :: ces, x :: l => by
    have := fixZ_length (n + 1) ces l
    cases x <;> simp [fixZ, this]

/-- what is written in a struct's cells behind 'empties' -/
theorem fixZ_ok {w : World} {I I' : Bool → Nat → Prop} {h h' : Heap} {ρ ρ' : Rho} : ∀ (n : Nat) (ces : List CC) (l : List AV) (us : List Value), ces.length = l.length → ConcVs w I h ρ l us →
    (∀ x u, x ∈ l → ConcV w I h ρ x u → ConcV w I' h' ρ' x u) →
    (∀ m e cs, (m, e, cs) ∈ (fixZ n ces l).2 → hget h' m = some (.sl true e cs []) ∧ ρ' m = none) → ConcVs w I' h' ρ' (fixZ n ces l).1 us
  | n, [], [], us, _, hc, _, _ => by cases us <;> (simp only [fixZ]; unfold ConcVs at hc ⊢; exact hc)
  | n, [], _ :: _, _, hl, _, _, _ => by simp at hl
  | n, _ :: _, [], _, hl, _, _, _ => by simp at hl
  | n, ce :: ces, x :: l, us, hl, hc, hx, he => by
    cases us with
    | nil => unfold ConcVs at hc; exact hc.elim
    | cons u us =>
      unfold ConcVs at hc
      have hz : x = .z → ConcVs w I' h' ρ' (fixZ n (ce :: ces) (x :: l)).1 (u :: us) := by
        rintro rfl
        show ConcVs w I' h' ρ' (.o n :: (fixZ (n + 1) ces l).1) (u :: us)
        unfold ConcVs
        have h0 := he n ce.e (match ce.c with | .l cs => cs | _ => []) (by show _ ∈ _ :: _; exact List.mem_cons_self)
        refine ⟨?_, fixZ_ok (n + 1) ces l us (by simpa using hl) hc.2 (fun y v hy => hx y v (by simp [hy])) (fun m e cs hm => he m e cs (by simp only [fixZ]; exact List.mem_cons_of_mem _ hm))⟩
        have := hc.1
        unfold ConcV at this ⊢
        exact ⟨_, _, _, _, h0.1, by rw [h0.2]; exact this⟩
      have ho : (fixZ n (ce :: ces) (x :: l)).1 = x :: (fixZ (n + 1) ces l).1 → (fixZ n (ce :: ces) (x :: l)).2 = (fixZ (n + 1) ces l).2 → ConcVs w I' h' ρ' (fixZ n (ce :: ces) (x :: l)).1 (u :: us) := by
        intro e1 e2
        rw [e1]
        unfold ConcVs
        exact ⟨hx x u (by simp) hc.1, fixZ_ok (n + 1) ces l us (by simpa using hl) hc.2 (fun y v hy => hx y v (by simp [hy])) (fun m e cs hm => he m e cs (by rw [e2]; exact hm))⟩
      cases x <;> first | exact hz rfl | exact ho rfl rfl

theorem mem_namesL {x : AV} {n : Nat} (hn : n ∈ x.names) : ∀ {l : List AV}, x ∈ l → n ∈ AV.namesL l
  | y :: l, hm => by
    unfold AV.namesL
    simp only [List.mem_cons] at hm
    rcases hm with rfl | hm
    · exact List.mem_append_left _ hn
    · exact List.mem_append_right _ (mem_namesL hn hm)

theorem disj_ok {l : List AV} {es : List (Nat × TypeId × List CT)} (hd : disj l es = true) {n : Nat} (hn : n ∈ AV.namesL l) : n ∉ es.map (·.1) := by
  intro hm
  obtain ⟨y, hy, e⟩ := List.mem_map.1 hm
  unfold disj at hd
  rw [List.all_eq_true] at hd
  have := hd n hn
  simp only [Bool.not_eq_true', List.any_eq_false] at this
  exact this y hy (by rw [e]; exact Nat.beq_refl n)

theorem cell_one {x : AV} {u : Value} (hx : x.cell = true) (hc : ConcV w I h ρ x u) : u.oneCell' = true := by
  cases x <;> simp [AV.cell] at hx <;> unfold ConcV at hc
  case v y =>
    obtain ⟨rfl, hv⟩ := hc
    cases u <;> simp [VOk] at hv <;> rfl
  case any k =>
    obtain ⟨n, rfl, _⟩ := hc
    rfl
  case one => exact hc
  case q fr cs x =>
    obtain ⟨b, off, rfl, _⟩ := hc
    rfl
  case d fr cs xs =>
    rw [Rep_l] at hc
    obtain ⟨ad, cap, rfl, _⟩ := hc
    rfl
  case o k =>
    obtain ⟨fr, e, cs, xs, _, rfl⟩ := hc
    cases ρ k <;> rfl
  case p k off =>
    obtain ⟨cells, g, c, _, _, rfl⟩ := hc
    rfl
  case f fn l =>
    obtain ⟨us, rfl, _⟩ := hc
    rfl
theorem cells_one : ∀ {l : List AV} {us : List Value}, l.all AV.cell = true → ConcVs w I h ρ l us → ∀ u ∈ us, u.oneCell' = true
  | [], [], _, _ => by simp
  | x :: l, u :: us, hl, hc => by
    unfold ConcVs at hc
    simp only [List.all_cons, Bool.and_eq_true] at hl
    intro v hv
    simp only [List.mem_cons] at hv
    rcases hv with rfl | hv
    · exact cell_one hl.1 hc.1
    · exact cells_one hl.2 hc.2 v hv
  | [], _ :: _, _, hc => by unfold ConcVs at hc; exact hc.elim
  | _ :: _, [], _, hc => by unfold ConcVs at hc; exact hc.elim

/-- An own variable. -/
theorem box_ok (hc : Conc E st a w ρ) {t : Tmp} {ti : TI} {l : List AV} {us : List Value} {st' : St} (hl : ConcVs w (Imm E w st.heap ρ) st.heap ρ l us) (he : boxE st t ti l = some st') (T : TypeId) :
    ∃ ρ', Conc E st' (a.put (some t) (.pointer (some ⟨w.heap.size, 0, none⟩))) (w.alloc (.cells us.toArray T)) ρ' := by
  unfold boxE at he
  cases hti : ti.cells with
  | none => rw [hti] at he; simp at he
  | some p =>
    obtain ⟨agg, ces⟩ := p
    rw [hti] at he
    simp only at he
    split at he
    · rename_i hcond
      obtain ⟨h1, h2, h3⟩ := hcond
      simp only [Option.some.injEq] at he
      subst he
      obtain ⟨ρ1, d1, d2, d3, d4⟩ := hc.empties (fixZ (name t + 1) ces l).2 (fixZ_names _ _ _).2
      have hcells : ConcVs w (Imm E w (st.empties (fixZ (name t + 1) ces l).2).heap ρ1) (st.empties (fixZ (name t + 1) ces l).2).heap ρ1 (fixZ (name t + 1) ces l).1 us :=
        fixZ_ok _ _ _ _ h2 hl (fun x u hx hxc => d2 x u hxc (fun n hn => disj_ok h3 (mem_namesL hn hx))) d3
      have hnew := d1.new (name t) (.box (fixZ (name t + 1) ces l).1) (some (w.heap.size, 0)) (w.alloc (.cells us.toArray T)) (.inr ⟨_, _, _, rfl, rfl, rfl⟩)
        (fun keep sub _ _ hstep hI hL => ⟨w.heap.size, 0, T, us.toArray, upd_same _ _ _, .inl d1.size, heap_alloc_new w _, hL _ _ hcells⟩)
      refine ⟨_, hnew.1.set (some t) ?_⟩
      obtain ⟨keep, sub, _, e2, _⟩ := new_heap (st.empties (fixZ (name t + 1) ces l).2) (name t) (.box (fixZ (name t + 1) ces l).1)
      unfold ConcV
      exact ⟨_, w.heap.size, 0, by rw [e2, if_pos rfl]; rfl, upd_same _ _ _, rfl⟩
    · cases he

/-! ### 9. Writing -/
/-- The content of a block is another; its shape is the same. -/
theorem Conc.write (hc : Conc E st a w ρ) {k g c : Nat} {ab ab' : AB} {T : TypeId} {cur cur' : Array Value} (hg : hget st.heap k = some ab) (hr : ρ k = some (g, c)) (hw : w.heap[g]? = some (.cells cur T (0, 0)))
    (hsh : SameShape ab ab')
    (hb : (∀ fr b, Imm E w st.heap ρ fr b → Imm E (w.setRow g cur') (hset st.heap k ab') ρ fr b ∧ (w.setRow g cur').heap[b]? = w.heap[b]?) →
      (∀ l us, ConcVs w (Imm E w st.heap ρ) st.heap ρ l us → ConcVs (w.setRow g cur') (Imm E (w.setRow g cur') (hset st.heap k ab') ρ) (hset st.heap k ab') ρ l us) →
      (w.setRow g cur').heap[g]? = some (.cells cur' T (0, 0)) → BlockOk E (w.setRow g cur') (hset st.heap k ab') ρ k ab') :
    Conc E ⟨st.tmps, hset st.heap k ab'⟩ a (w.setRow g cur') ρ := by
  have hown : ∀ b, Own (hset st.heap k ab') ρ b → Own st.heap ρ b := by
    rintro b ⟨n, x, c', hn, hr'⟩
    rw [hget_hset] at hn
    by_cases e : n = k
    · subst e; exact ⟨n, ab, c', hg, hr'⟩
    · rw [if_neg e] at hn; exact ⟨n, x, c', hn, hr'⟩
  have hgo : Own st.heap ρ g := ⟨k, ab, c, hg, hr⟩
  have hbl : ∀ b, b < w.heap.size → ¬ Own st.heap ρ b → (w.setRow g cur').heap[b]? = w.heap[b]? :=
    fun b _ hno => setRow_other w g b cur' (fun e => hno (by rw [e]; exact hgo))
  have hI := Imm.step (E := E) (w := w) (w' := w.setRow g cur') (h := st.heap) (h' := hset st.heap k ab') (ρ := ρ) (ρ' := ρ) (by simp) (fun b _ ho => hown b ho) hbl
  have hk : ∀ n x, hget st.heap n = some x → ρ n = ρ n ∧ ∃ x', hget (hset st.heap k ab') n = some x' ∧ SameShape x x' := by
    intro n x hx
    refine ⟨rfl, ?_⟩
    rw [hget_hset]
    by_cases e : n = k
    · subst e
      rw [hg] at hx
      simp only [Option.some.injEq] at hx
      subst hx
      exact ⟨ab', if_pos rfl, hsh⟩
    · exact ⟨x, by rw [if_neg e]; exact hx, SameShape.refl x⟩
  have := hc.trans (fun _ => true) (fun _ => .bad) (hset st.heap k ab') ρ (w.setRow g cur') (by simp) (fun b _ ho => hown b ho) hbl (fun n x _ hx => hk n x hx) (fun _ _ hf => by simp at hf) ?_ ?_ rfl rfl rfl
  · rwa [AV.renL_all] at this
  · intro n x hn
    rw [hget_hset] at hn
    by_cases e : n = k
    · rw [if_pos e] at hn
      simp only [Option.some.injEq] at hn
      subst hn
      subst e
      exact hb hI (fun l us hl => ConcVs.kept hI hk hl) (setRow_heap w g cur cur' T (0, 0) hw)
    · rw [if_neg e] at hn
      have := BlockOk.step (keep := fun _ => true) (sub := fun _ => AV.bad) hI (fun n x _ hx => hk n x hx) (fun _ _ hf => by simp at hf) (hc.blk n x hn) rfl (fun g' c' hr' => setRow_other w g g' cur' (fun e' => ?_))
      · have hid : x.ren (fun _ => true) (fun _ => AV.bad) = x := by cases x <;> simp [AB.ren, AV.renL_all]
        rwa [hid] at this
      · subst e'
        exact e (hc.inj n k x ab g' c' c hn hg hr' hr)
  · intro n n' x x' g' c1 c2 hn hn' hr1 hr2
    rw [hget_hset] at hn hn'
    obtain ⟨y, hy⟩ : ∃ y, hget st.heap n = some y := by
      by_cases e : n = k
      · exact ⟨ab, by rw [e]; exact hg⟩
      · rw [if_neg e] at hn; exact ⟨x, hn⟩
    obtain ⟨y', hy'⟩ : ∃ y, hget st.heap n' = some y := by
      by_cases e : n' = k
      · exact ⟨ab, by rw [e]; exact hg⟩
      · rw [if_neg e] at hn'; exact ⟨x', hn'⟩
    exact hc.inj n n' y y' g' c1 c2 hy hy' hr1 hr2

theorem ConcVs_put {off : Nat} {l cells : List AV} {us cur : List Value} (hl : ConcVs w I h ρ l us) (hcur : ConcVs w I h ρ cells cur) : ConcVs w I h ρ (putAt off l cells) (cur.take off ++ us ++ cur.drop (off + us.length)) := by
  unfold putAt
  rw [ConcVs_length hl]
  exact ConcVs_append (ConcVs_append (ConcVs_take off hcur) hl) (ConcVs_drop _ hcur)

theorem agg_cells {x : AV} {u : Value} (hx : ConcV w I h ρ x u) (hb : (∃ l, x = .g l) ∨ x.cell = true ∨ x = .z) : ConcVs w I h ρ x.cells u.cells.toList := by
  rcases hb with ⟨l, rfl⟩ | hb
  · unfold ConcV at hx
    obtain ⟨us, rfl, hl⟩ := hx
    simpa [AV.cells, Value.cells] using hl
  · have h1 : u.oneCell' = true := by
      rcases hb with hb | rfl
      · exact cell_one hb hx
      · unfold ConcV at hx; subst hx; rfl
    have h2 : u.cells.toList = [u] := by cases u <;> simp [Value.cells, Value.oneCell'] at h1 ⊢
    have h3 : x.cells = [x] := by
      rcases hb with hb | rfl
      · cases x <;> simp [AV.cell] at hb <;> rfl
      · rfl
    rw [h2, h3]
    unfold ConcVs
    exact ⟨hx, by unfold ConcVs; trivial⟩

theorem fixZ_cell {n : Nat} {ces : List CC} {x : AV} (hl : ces.length = x.cells.length) (hr : (fixZ n ces x.cells).1.all AV.cell = true) : (∃ l, x = .g l) ∨ x.cell = true ∨ x = .z := by
  cases x
  case g l => exact .inl ⟨l, rfl⟩
  case z => exact .inr (.inr rfl)
  all_goals
    refine .inr (.inl ?_)
    match ces, hl with
    | [ce], _ => simpa [AV.cells, fixZ] using hr

theorem size_ok {t : TypeId} {ti : TI} (ht : TIOk P t ti) {agg : Bool} {ces : List CC} (hti : ti.cells = some (agg, ces)) : ∃ i, P.info? t = some i ∧ i.size = ces.length ∧ ∃ z, i.zero = some z ∧ zerosB ces z.cells.toList = true := by
  cases ti <;> simp only [TI.cells, Option.some.injEq, Prod.mk.injEq] at hti <;> try (cases hti; done)
  case sc c =>
    obtain ⟨d, i, z, h1, h2, h3, h4, h5, h6, h7⟩ := ht
    obtain ⟨_, rfl⟩ := hti
    exact ⟨i, h3, h4, z, h5, h6⟩
  case st fs =>
    obtain ⟨pfs, i, zs, h1, h2, h3, h4, h5, h6, h7⟩ := ht
    obtain ⟨_, rfl⟩ := hti
    exact ⟨i, h3, h4, _, h5, by simpa [Value.cells] using h6⟩
  case sl e ag cs by_ =>
    obtain ⟨i, i', z, h1, h2, h3, h4, h5, h6, h7⟩ := ht
    obtain ⟨_, rfl⟩ := hti
    exact ⟨i, h2, h3, _, h4, by simp [Value.cells, zerosB, zeroB]⟩

theorem storeBox_ok (hc : Conc E st a w ρ) {t : TypeId} {ti : TI} (ht : TIOk E.P t ti) {k off g c : Nat} {x : AV} {u : Value} {st' : St} (hx : ConcV w (Imm E w st.heap ρ) st.heap ρ x u)
    (hr : ρ k = some (g, c)) (he : storeBox st ti k off x = some st') :
    ∃ w' ρ', (Instr.storeAt t (.pointer (some ⟨g, off, none⟩)) u).run E.P w = .ok () w' ∧ Conc E st' a w' ρ' := by
  unfold storeBox at he
  cases hti : ti.cells with
  | none => rw [hti] at he; simp at he
  | some p =>
    obtain ⟨agg, ces⟩ := p
    rw [hti] at he
    simp only at he
    split at he
    · rename_i hlen
      cases hgk : hget (st.empties (fixZ (k + 1 + off) ces x.cells).2).heap k with
      | none => rw [hgk] at he; simp at he
      | some ab =>
        rw [hgk] at he
        cases ab with
        | sl _ _ _ _ => simp at he
        | box cells =>
          simp only at he
          split at he
          · rename_i hcond
            obtain ⟨h1, h2, h3⟩ := hcond
            simp only [Option.some.injEq] at he
            subst he
            obtain ⟨ρ1, d1, d2, d3, d4⟩ := hc.empties (fixZ (k + 1 + off) ces x.cells).2 (fixZ_names _ _ _).2
            have hk : k ∉ (fixZ (k + 1 + off) ces x.cells).2.map (·.1) := by
              intro hm
              obtain ⟨y, hy, e⟩ := List.mem_map.1 hm
              have := (fixZ_names (k + 1 + off) ces x.cells).1 y hy
              omega
            have hxc := agg_cells hx (fixZ_cell hlen h1)
            have hcells := fixZ_ok (k + 1 + off) ces x.cells u.cells.toList hlen hxc (fun y v hy hyc => d2 y v hyc (fun n hn => disj_ok h3 (mem_namesL hn hy))) d3
            have hr1 : ρ1 k = some (g, c) := by rw [(d4 k hk).1, hr]
            obtain ⟨g', c', T, cur, e1, e2, e3, e4⟩ := d1.blk k _ hgk
            rw [hr1] at e1
            simp only [Option.some.injEq, Prod.mk.injEq] at e1
            obtain ⟨rfl, rfl⟩ := e1
            have hlu : (fixZ (k + 1 + off) ces x.cells).1.length = u.cells.toList.length := ConcVs_length hcells
            have hlc : cells.length = cur.toList.length := ConcVs_length e4
            have hfit : off + 0 + u.cells.toList.length ≤ cur.size := by rw [← hlu]; simp at hlc; omega
            have hone := cells_one h1 hcells
            have hst := run_storeCells_at E.P g off T u.cells.toList 0 cur w e3 hfit hone
            obtain ⟨i, hi1, hi2, _⟩ := size_ok ht hti
            have hsz : u.cells.size = i.size := by
              rw [hi2, hlen, ← Array.length_toList, ← hlu, fixZ_length]
            refine ⟨_, ρ1, ?_, d1.write (ab' := .box (putAt off (fixZ (k + 1 + off) ces x.cells).1 cells)) hgk hr1 e3 (by simp [SameShape]) (cur' := (cur.toList.take off ++ u.cells.toList ++ cur.toList.drop (off + u.cells.toList.length)).toArray) ?_⟩
            · simp only [Nat.add_zero] at hst
              simp [Instr.storeAt, Instr.sureAddr, storeVar, sizeOf, typeInfo, hi1, hsz, hst]
            · intro hI hL hw'
              exact ⟨g, c, T, _, hr1, e2, hw', by
                have := hL _ _ (ConcVs_put (off := off) hcells e4)
                simpa using this⟩
          · cases he
    · cases he
end
end Go.Proofs.Ai
