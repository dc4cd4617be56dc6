/- A part of the proof that the law FnExactHonestReach returns true: contracts of the functions that it calls, or the plain facts behind them; each holds for every input that its premises name. -/
import Derived.Test.YtjeedadfhoiedaaGreatB9
set_option linter.unusedVariables false
set_option linter.unusedSimpArgs false
namespace Go.Proofs.Ai

/-! nodes that are reached -/
inductive Rch (es : List Ed) (v : Int) : Int → Prop
  | start : Rch es v v
  | step {e : Ed} : e ∈ es → Rch es v e.1 → Rch es v e.2.1

/-! breadth first search -/
theorem bI_pre (u : Int) : ∀ (l : List Ed) (f : List Int) (i : Nat) (x : Int), f[i]? = some x → (bI u l f)[i]? = some x
  | [], f, i, x, h => h
  | e :: r, f, i, x, h => by
    unfold bI
    cases e.1 == u && !(decide (e.2.1 ∈ f)) with
    | false => exact bI_pre u r f i x h
    | true => exact bI_pre u r (f ++ [e.2.1]) i x (by rw [List.getElem?_append_left (List.getElem?_eq_some_iff.1 h).1]; exact h)
theorem bI_mem (u : Int) (l : List Ed) (f : List Int) (x : Int) (h : x ∈ f) : x ∈ bI u l f := by
  obtain ⟨i, hi⟩ := List.getElem?_of_mem h
  exact List.mem_of_getElem? (bI_pre u l f i x hi)
theorem bI_has (u : Int) : ∀ (l : List Ed) (f : List Int) (e : Ed), e ∈ l → e.1 = u → e.2.1 ∈ bI u l f
  | [], f, e, h, _ => by simp at h
  | a :: r, f, e, h, he => by
    unfold bI
    rcases List.mem_cons.1 h with h | h
    · subst h
      have hb : (e.1 == u) = true := by simp [he]
      rw [hb]
      cases hd : decide (e.2.1 ∈ f) with
      | true => exact bI_mem u r f _ (of_decide_eq_true hd)
      | false => exact bI_mem u r _ _ (by simp)
    · exact bI_has u r _ e h he
theorem bI_from (u : Int) : ∀ (l : List Ed) (f : List Int) (x : Int), x ∈ bI u l f → x ∈ f ∨ ∃ e ∈ l, e.1 = u ∧ e.2.1 = x
  | [], f, x, h => .inl h
  | e :: r, f, x, h => by
    unfold bI at h
    rcases bI_from u r _ x h with h | ⟨e', h1, h2⟩
    · cases hc : e.1 == u && !(decide (e.2.1 ∈ f)) with
      | false => rw [hc] at h; exact .inl h
      | true =>
        rw [hc] at h
        rcases List.mem_append.1 h with h | h
        · exact .inl h
        · simp only [Bool.and_eq_true, beq_iff_eq] at hc
          simp at h
          exact .inr ⟨e, by simp, hc.1, h.symm⟩
    · exact .inr ⟨e', List.mem_cons_of_mem _ h1, h2⟩
theorem bI_in (u s : Int) : ∀ (l : List Ed) (f : List Int), InS s f → (∀ e ∈ l, 0 ≤ e.2.1 ∧ e.2.1 < s) → InS s (bI u l f)
  | [], f, h, _ => h
  | e :: r, f, h, hl => by
    unfold bI
    refine bI_in u s r _ ?_ (fun e' h' => hl e' (List.mem_cons_of_mem _ h'))
    cases hc : e.1 == u && !(decide (e.2.1 ∈ f)) with
    | false => exact h
    | true =>
      simp only [Bool.and_eq_true, Bool.not_eq_true', decide_eq_false_iff_not] at hc
      exact h.snoc hc.2 (hl e (by simp)).1 (hl e (by simp)).2
theorem bO_spec {es : List Ed} {s v : Int} (hs8 : s ≤ 8) (hl : ∀ e ∈ es, 0 ≤ e.2.1 ∧ e.2.1 < s) : ∀ (m : Nat) (f : List Int) (k : Nat), InS s f → (∀ x ∈ f, Rch es v x) → v ∈ f →
    (∀ i x, i < k → f[i]? = some x → ∀ e ∈ es, e.1 = x → e.2.1 ∈ f) → k ≤ f.length → 9 ≤ m + k → ∃ fin, bO es m f k = some fin ∧ InS s fin ∧ (∀ x, x ∈ fin ↔ Rch es v x)
  | 0, f, k, hS, _, _, _, hk, hm => by have := hS.len hs8; omega
  | m + 1, f, k, hS, hR, hv, hc, hk, hm => by
    unfold bO
    cases hfk : f[k]? with
    | none =>
      refine ⟨f, rfl, hS, fun x => ⟨hR x, fun hx => ?_⟩⟩
      induction hx with
      | start => exact hv
      | @step e he _ ih =>
        obtain ⟨i, hi⟩ := List.getElem?_of_mem ih
        have hlt : i < k := by
          have h1 := (List.getElem?_eq_some_iff.1 hi).1
          have h2 := List.getElem?_eq_none_iff.1 hfk
          omega
        exact hc i _ hlt hi e he rfl
    | some u =>
      simp only
      have hkl : k < f.length := (List.getElem?_eq_some_iff.1 hfk).1
      refine bO_spec hs8 hl m (bI u es f) (k + 1) (bI_in u s es f hS hl) (fun x hx => ?_) (bI_mem u es f v hv) (fun i x hi hix e he hex => ?_) ?_ (by omega)
      · rcases bI_from u es f x hx with h | ⟨e, h1, h2, h3⟩
        · exact hR x h
        · rw [← h3]
          exact .step h1 (by rw [h2]; exact hR u (List.mem_of_getElem? hfk))
      · by_cases hik : i < k
        · have hil : i < f.length := by omega
          have h0 := bI_pre u es f i f[i] (List.getElem?_eq_getElem hil)
          rw [h0] at hix
          have := hc i x hik (by rw [List.getElem?_eq_getElem hil]; exact hix) e he hex
          exact bI_mem u es f _ this
        · obtain rfl : i = k := by omega
          have h0 := bI_pre u es f i u hfk
          rw [h0] at hix
          cases hix
          exact bI_has u es f e he hex
      · have h0 := bI_pre u es f k u hfk
        have := (List.getElem?_eq_some_iff.1 h0).1
        omega

/-! rounds of relaxation -/
def Tr (seen : List Bool) (x : Int) : Prop := seen.getD x.toNat false = true
theorem Tr_set {seen : List Bool} {x y : Int} (h : Tr seen x) : Tr (seen.set y.toNat true) x := by
  unfold Tr at h ⊢
  rw [List.getD_eq_getElem?_getD] at h ⊢
  by_cases e : y.toNat = x.toNat
  · rw [e, List.getElem?_set]
    by_cases hl : x.toNat < seen.length
    · simp [hl]
    · rw [List.getElem?_eq_none (by omega)] at h; simp at h
  · rw [List.getElem?_set_ne e]; exact h
theorem Tr_relax {seen : List Bool} {x : Int} (e : Ed) (h : Tr seen x) : Tr (relax seen e) x := by
  unfold relax
  cases seen.getD e.1.toNat false with
  | false => exact h
  | true => exact Tr_set h
theorem Tr_fold {x : Int} : ∀ (es : List Ed) {seen : List Bool}, Tr seen x → Tr (es.foldl relax seen) x
  | [], _, h => h
  | e :: r, _, h => Tr_fold r (Tr_relax e h)
theorem Tr_rounds {x : Int} (es : List Ed) : ∀ (k : Nat) {seen : List Bool}, Tr seen x → Tr (rounds es k seen) x
  | 0, _, h => h
  | k + 1, _, h => Tr_rounds es k (Tr_fold es h)
theorem Tr_edge {s : Int} : ∀ (es : List Ed) {seen : List Bool}, seen.length = s.toNat → (∀ e ∈ es, 0 ≤ e.2.1 ∧ e.2.1 < s) → ∀ e ∈ es, Tr seen e.1 → Tr (es.foldl relax seen) e.2.1
  | [], _, _, _, e, h, _ => by simp at h
  | a :: r, seen, hs, hr, e, h, ht => by
    rw [List.foldl_cons]
    rcases List.mem_cons.1 h with h | h
    · subst h
      refine Tr_fold r ?_
      have h1 := (hr e (by simp))
      unfold relax
      unfold Tr at ht
      rw [ht]
      unfold Tr
      rw [List.getD_eq_getElem?_getD]
      simp only [cond_true]
      rw [List.getElem?_set_self (by omega)]
      rfl
    · exact Tr_edge r (by rw [relax_length]; exact hs) (fun e' h' => hr e' (List.mem_cons_of_mem _ h')) e h (Tr_relax a ht)
theorem Tr_sound {es : List Ed} {v : Int} (h0 : ∀ e ∈ es, 0 ≤ e.1 ∧ 0 ≤ e.2.1) : ∀ (l : List Ed) (seen : List Bool), (∀ e ∈ l, e ∈ es) → (∀ x, 0 ≤ x → Tr seen x → Rch es v x) → ∀ x, 0 ≤ x → Tr (l.foldl relax seen) x → Rch es v x
  | [], seen, _, h, x, hx, ht => h x hx ht
  | e :: r, seen, hl, h, x, hx, ht => by
    rw [List.foldl_cons] at ht
    refine Tr_sound h0 r (relax seen e) (fun e' h' => hl e' (List.mem_cons_of_mem _ h')) (fun y hy hty => ?_) x hx ht
    unfold relax at hty
    cases hb : seen.getD e.1.toNat false with
    | false => rw [hb] at hty; exact h y hy hty
    | true =>
      rw [hb] at hty
      have he := hl e (by simp)
      have h1 := h0 e he
      by_cases e' : e.2.1.toNat = y.toNat
      · have : y = e.2.1 := by omega
        rw [this]
        exact .step he (h _ h1.1 hb)
      · refine h y hy ?_
        unfold Tr at hty ⊢
        simp only [cond_true] at hty
        rw [List.getD_eq_getElem?_getD, List.getElem?_set_ne e'] at hty
        rw [List.getD_eq_getElem?_getD]
        exact hty
theorem Tr_sound_rounds {es : List Ed} {v : Int} (h0 : ∀ e ∈ es, 0 ≤ e.1 ∧ 0 ≤ e.2.1) : ∀ (k : Nat) (seen : List Bool), (∀ x, 0 ≤ x → Tr seen x → Rch es v x) → ∀ x, 0 ≤ x → Tr (rounds es k seen) x → Rch es v x
  | 0, seen, h, x, hx, ht => h x hx ht
  | k + 1, seen, h, x, hx, ht => Tr_sound_rounds h0 k _ (Tr_sound h0 es seen (fun _ h => h) h) x hx ht

/-- how many are true -/
def cT (l : List Bool) : Nat := l.countP id
theorem cT_set : ∀ (l : List Bool) (i : Nat), cT l ≤ cT (l.set i true) ∧ (cT (l.set i true) = cT l → l.set i true = l)
  | [], i => by simp [cT]
  | b :: r, 0 => by cases b <;> simp [cT]
  | b :: r, i + 1 => by
    have ⟨h1, h2⟩ := cT_set r i
    unfold cT at h1 h2 ⊢
    rw [List.set_cons_succ, List.countP_cons, List.countP_cons]
    refine ⟨by omega, fun h => ?_⟩
    rw [h2 (by omega)]
theorem cT_relax (seen : List Bool) (e : Ed) : cT seen ≤ cT (relax seen e) ∧ (cT (relax seen e) = cT seen → relax seen e = seen) := by
  unfold relax
  cases seen.getD e.1.toNat false with
  | false => exact ⟨Nat.le_refl _, fun _ => rfl⟩
  | true => exact cT_set seen _
theorem cT_fold : ∀ (es : List Ed) (seen : List Bool), cT seen ≤ cT (es.foldl relax seen) ∧ (cT (es.foldl relax seen) = cT seen → es.foldl relax seen = seen)
  | [], seen => ⟨Nat.le_refl _, fun _ => rfl⟩
  | e :: r, seen => by
    rw [List.foldl_cons]
    have ⟨h1, h2⟩ := cT_relax seen e
    have ⟨h3, h4⟩ := cT_fold r (relax seen e)
    refine ⟨by omega, fun h => ?_⟩
    rw [h4 (by omega), h2 (by omega)]
theorem rounds_fix {es : List Ed} {seen : List Bool} (h : es.foldl relax seen = seen) : ∀ k, rounds es k seen = seen
  | 0 => rfl
  | k + 1 => by rw [rounds, h]; exact rounds_fix h k
theorem rounds_grow (es : List Ed) : ∀ (k : Nat) (seen : List Bool), es.foldl relax (rounds es k seen) = rounds es k seen ∨ cT seen + k ≤ cT (rounds es k seen)
  | 0, seen => .inr (Nat.le_refl _)
  | k + 1, seen => by
    by_cases h : es.foldl relax seen = seen
    · left
      rw [rounds_fix h]; exact h
    · have ⟨h1, h2⟩ := cT_fold es seen
      rcases rounds_grow es k (es.foldl relax seen) with h3 | h3
      · exact .inl h3
      · right
        have : cT (es.foldl relax seen) ≠ cT seen := fun e => h (h2 e)
        rw [rounds]
        omega
theorem reachS_spec {es : List Ed} {s v : Int} (h0 : ∀ e ∈ es, 0 ≤ e.1 ∧ e.1 < s ∧ 0 ≤ e.2.1 ∧ e.2.1 < s) (hv0 : 0 ≤ v) (hv1 : v < s) : ∀ x, 0 ≤ x → (Tr (reachS (s, es) v) x ↔ Rch es v x) := by
  obtain ⟨F, hF⟩ : ∃ F, F = reachS (s, es) v := ⟨_, rfl⟩
  obtain ⟨S0, hS0⟩ : ∃ S0, S0 = (List.replicate s.toNat false).set v.toNat true := ⟨_, rfl⟩
  have hFr : F = rounds es s.toNat S0 := by rw [hF, hS0]; rfl
  have hlen0 : S0.length = s.toNat := by rw [hS0]; simp
  have hlen : F.length = s.toNat := by rw [hFr, rounds_length]; exact hlen0
  have hv : Tr S0 v := by
    unfold Tr
    rw [hS0, List.getD_eq_getElem?_getD, List.getElem?_set_self (by simp; omega)]
    rfl
  have hfix : es.foldl relax F = F := by
    rcases rounds_grow es s.toNat S0 with h | h
    · rw [hFr]; exact h
    · have h1 : 1 ≤ cT S0 := by
        unfold cT
        refine List.countP_pos_iff.2 ⟨true, ?_, rfl⟩
        unfold Tr at hv
        rw [List.getD_eq_getElem?_getD] at hv
        cases hg : S0[v.toNat]? with
        | none => rw [hg] at hv; simp at hv
        | some b => rw [hg] at hv; simp at hv; subst hv; exact List.mem_of_getElem? hg
      have h2 : cT (rounds es s.toNat S0) ≤ s.toNat := by
        have := List.countP_le_length (p := id) (l := rounds es s.toNat S0)
        rw [rounds_length, hlen0] at this
        exact this
      omega
  intro x hx
  rw [← hF]
  constructor
  · intro ht
    rw [hFr] at ht
    refine Tr_sound_rounds (fun e he => ⟨(h0 e he).1, (h0 e he).2.2.1⟩) _ S0 (fun y hy hty => ?_) x hx ht
    by_cases e : v.toNat = y.toNat
    · have : y = v := by omega
      rw [this]; exact .start
    · unfold Tr at hty
      rw [hS0, List.getD_eq_getElem?_getD, List.getElem?_set_ne e] at hty
      rw [List.getElem?_replicate] at hty
      split at hty <;> simp at hty
  · intro hr
    clear hx
    induction hr with
    | start => rw [hFr]; exact Tr_rounds es _ hv
    | @step e he _ ih =>
      have := Tr_edge (s := s) es hlen (fun e he => (h0 e he).2.2) e he ih
      rwa [hfix] at this

/-! the list of what is true -/
theorem idxT_mem : ∀ (bs : List Bool) (i : Int) (x : Int), x ∈ idxT i bs ↔ ∃ j : Nat, x = i + j ∧ bs[j]? = some true
  | [], i, x => by simp [idxT]
  | b :: r, i, x => by
    have ih := idxT_mem r (i + 1) x
    cases b with
    | true =>
      simp only [idxT, cond_true, List.mem_cons, ih]
      constructor
      · rintro (h | ⟨j, h1, h2⟩)
        · exact ⟨0, by omega, by simp⟩
        · exact ⟨j + 1, by omega, by simpa using h2⟩
      · rintro ⟨j, h1, h2⟩
        cases j with
        | zero => left; simpa using h1
        | succ j => right; exact ⟨j, by omega, by simpa using h2⟩
    | false =>
      simp only [idxT, cond_false, ih]
      constructor
      · rintro ⟨j, h1, h2⟩
        exact ⟨j + 1, by omega, by simpa using h2⟩
      · rintro ⟨j, h1, h2⟩
        cases j with
        | zero => simp at h2
        | succ j => exact ⟨j, by omega, by simpa using h2⟩
theorem idxT_sorted : ∀ (bs : List Bool) (i : Int), (idxT i bs).Pairwise (fun a b => a < b)
  | [], i => by simp [idxT]
  | b :: r, i => by
    have ih := idxT_sorted r (i + 1)
    cases b with
    | true =>
      simp only [idxT, cond_true]
      refine List.pairwise_cons.2 ⟨fun x hx => ?_, ih⟩
      obtain ⟨j, h1, _⟩ := (idxT_mem r (i + 1) x).1 hx
      omega
    | false => exact ih
/-- the two searches find the same -/
theorem search {s v : Int} {es : List Ed} (hval : valG (s, es) = true) (hb : T69 (s, es) v = true) :
    ∃ fuel fin, bO es fuel [v] 0 = some fin ∧ fin.length ≤ 8 ∧ fin.mergeSort (fun x y => decide (x ≤ y)) = rnS (s, es) v := by
  obtain ⟨hs1, hs8, hlen, hall⟩ := valG_spec hval
  simp only at hs1 hs8 hlen hall
  have hv0 : 0 ≤ v ∧ v < s := by
    have : IntKind.wrap .i64 (s - 1) = s - 1 := wrap_id (by omega) (by omega)
    unfold T69 inB at hb
    simp only [this, Bool.and_eq_true, decide_eq_true_eq] at hb
    omega
  obtain ⟨fin, h1, h2, h3⟩ := bO_spec (v := v) hs8 (fun e he => (hall e he).2.2) 9 [v] 0 ⟨by simp, fun x hx => by simp at hx; omega⟩ (fun x hx => by simp at hx; rw [hx]; exact .start) (by simp) (fun i x hi => by omega) (by simp) (by omega)
  refine ⟨9, fin, h1, h2.len hs8, ?_⟩
  have hb' : inB v 0 (IntKind.wrap .i64 (s - 1)) = true := hb
  have hrn : rnS (s, es) v = idxT 0 (reachS (s, es) v) := by
    unfold rnS
    simp only
    rw [hval, hb']
    rfl
  rw [hrn]
  have hp : fin.Perm (idxT 0 (reachS (s, es) v)) := by
    refine (List.perm_ext_iff_of_nodup h2.nd ((idxT_sorted _ 0).imp fun {a b} h => by omega)).2 fun x => ?_
    rw [h3, idxT_mem]
    constructor
    · intro hr
      have hx0 : 0 ≤ x ∧ x < s := h2.rg x ((h3 x).2 hr)
      have := (reachS_spec hall hv0.1 hv0.2 x hx0.1).2 hr
      refine ⟨x.toNat, by omega, ?_⟩
      unfold Tr at this
      rw [List.getD_eq_getElem?_getD] at this
      cases hg : (reachS (s, es) v)[x.toNat]? with
      | none => rw [hg] at this; simp at this
      | some b => rw [hg] at this; simp at this; rw [this]
    · rintro ⟨j, rfl, hj⟩
      refine (reachS_spec hall hv0.1 hv0.2 _ (by omega)).1 ?_
      unfold Tr
      rw [List.getD_eq_getElem?_getD, show (0 + (j : Int)).toNat = j by omega, hj]
      rfl
  have hsort : (idxT 0 (reachS (s, es) v)).mergeSort (fun x y => decide (x ≤ y)) = idxT 0 (reachS (s, es) v) := List.mergeSort_of_pairwise ((idxT_sorted _ 0).imp fun {a b} h => decide_eq_true (by omega))
  rw [← hsort]
  exact mergeSort_of_perm_i hp
end Go.Proofs.Ai

set_option linter.unusedVariables false
namespace Go.Proofs.Ai
open Go.RowKit Go.Maps

def e31 : FE := ⟨[(true, [.i .i64, .l c176]), (false, [.i .i64])], [(false, [.l c3])], true, false, fun x => some (rnS x.1 x.2)⟩
theorem idxT_ok {s v : Int} {es : List Ed} (hs : s ≤ 8) : ∀ x ∈ rnS (s, es) v, IntOk .i64 x := by
  intro x hx
  unfold rnS at hx
  cases hv : valG (s, es) with
  | false => rw [hv] at hx; simp at hx
  | true =>
    obtain ⟨h1, h2, _, _⟩ := valG_spec hv
    rw [hv] at hx
    cases hb : inB v 0 (IntKind.wrap .i64 (s - 1)) with
    | false => rw [show inB v 0 (IntKind.wrap .i64 ((s, es).1 - 1)) = false from hb] at hx; simp at hx
    | true =>
      rw [show inB v 0 (IntKind.wrap .i64 ((s, es).1 - 1)) = true from hb] at hx
      obtain ⟨j, h3, h4⟩ := (idxT_mem _ _ _).1 hx
      have h5 := (List.getElem?_eq_some_iff.1 h4).1
      unfold reachS at h5
      rw [rounds_length] at h5
      simp at h5 h1 h2
      unfold IntOk
      have hmin : IntKind.min .i64 = -9223372036854775808 := rfl
      have hmax : IntKind.max .i64 = 9223372036854775807 := rfl
      simp [Lit.wf, hmin, hmax]
      omega
theorem Rep_row {w : World} {base n : Nat} {u : Value} {xs : List Int} (h : w.ownsRow base 3 1 u n (xs.map encZ)) (hn : n = xs.length) (hx : ∀ x ∈ xs, IntOk .i64 x) : Rep w (fun b => base ≤ b ∧ b < w.heap.size ∧ (true = true → ∃ c t, w.heap[b]? = some (.cells c t (0, 0)))) (.l c3) xs u := by
  subst hn
  obtain ⟨_, h | ⟨g, cap, cur, rfl, hb, hg, h1, h2, h3, h4⟩⟩ := h
  · obtain ⟨rfl, h0⟩ := h
    have : xs = [] := List.eq_nil_of_length_eq_zero h0
    subst this
    exact ⟨none, 0, rfl, Nat.le_refl _, by simp [maxLen], fun _ => rfl, fun h => absurd rfl h⟩
  · refine ⟨_, cap, rfl, h1, h2, ?_, fun _ => ⟨g, 0, rfl, ⟨hb, (Array.getElem?_eq_some_iff.1 hg).1, fun _ => ⟨cur, 3, hg⟩⟩, fun i y hi => ?_⟩⟩
    · intro h; cases h
    refine ⟨.int .i64 y, ?_, rfl, hx y (List.mem_of_getElem? hi)⟩
    have hil : i < xs.length := (List.getElem?_eq_some_iff.1 hi).1
    rw [cell_at hg, show 0 + i * c3.length = i by simp]
    have : (cur.toList.take (xs.length * 1))[i]? = some (.int .i64 y) := by rw [h4, List.getElem?_map, show xs[i]? = some y from hi]; rfl
    rw [List.getElem?_take, if_pos (by omega)] at this
    simpa using this
theorem s31 : Sat Tryz.prog 31 e31 := by
  refine ⟨⟨Tryz.f31, Tryz.func31, rfl, ne_of_dec (by kernel_rfl)⟩, ?_⟩
  rintro ⟨⟨(s : Int), (es : List Ed)⟩, (v : Int)⟩ y hy w F us hF _ hargs
  obtain rfl : rnS (s, es) v = y := Option.some.inj hy
  obtain ⟨u1, r1, rfl, ⟨us1, rfl, hr1⟩, u2, r2, rfl, hr2, hr3⟩ := hargs
  have hr3' : r2 = [] := hr3
  subst hr3'
  obtain ⟨a1, b1, rfl, ⟨rfl, hs⟩, a2, b2, rfl, hes, hb2⟩ := hr1
  have hb2' : b2 = [] := hb2
  subst hb2'
  obtain ⟨c1, d1, e1, ⟨rfl, hv⟩, hd1⟩ := hr2
  have hd1' : d1 = [] := hd1
  subst hd1'
  cases e1
  have hes' : Rep w (fun b => b < w.heap.size) (.l c176) es a2 := Rep.mono hF (fun _ _ => rfl) (.l c176) es a2 hes
  by_cases hg : valG (s, es) = true ∧ T69 (s, es) v = true
  · obtain ⟨fuel, fin, h1, h2, h3⟩ := search hg.1 hg.2
    refine (w31_ok s v es a2 w hs hv hes' hg.1 hg.2 h1).mono ?_
    rintro e w' ⟨u, rfl, hrow, hb⟩
    rw [h3] at hrow
    refine ⟨u, rfl, Moved.of_below hb, [u], ⟨u, [], rfl, ⟨u, [], rfl, ?_, rfl⟩, rfl⟩, rfl⟩
    have hl : fin.length = (rnS (s, es) v).length := by rw [← h3, List.length_mergeSort]
    exact Rep.mono (fun b hb => .inl hb) (fun _ _ => rfl) (.l c3) _ _ (Rep_row hrow hl (idxT_ok (valG_spec hg.1).2.1))
  · have hbad : valG (s, es) = false ∨ T69 (s, es) v = false := by
      cases h1 : valG (s, es) <;> cases h2 : T69 (s, es) v <;> simp_all
    have hrn : rnS (s, es) v = [] := by
      unfold rnS
      rcases hbad with h | h
      · rw [h]; rfl
      · rw [show inB v 0 (IntKind.wrap .i64 ((s, es).1 - 1)) = false from h]
        cases valG (s, es) <;> rfl
    refine (w31_bad s v es a2 w hs hv hes' hbad).mono ?_
    rintro e w' ⟨rfl, hb⟩
    refine ⟨_, rfl, Moved.of_below hb, [.slice none 0 0], ⟨_, [], rfl, ⟨_, [], rfl, ?_, rfl⟩, rfl⟩, rfl⟩
    have hnil : Rep w' (ResF true w F w') (.l c3) [] (.slice none 0 0) := ⟨none, 0, rfl, Nat.le_refl _, by simp [maxLen], fun _ => rfl, fun h => absurd rfl h⟩
    show Rep w' (ResF true w F w') (.l c3) (rnS (s, es) v) (.slice none 0 0)
    rw [hrn]
    exact hnil
end Go.Proofs.Ai

set_option linter.unusedVariables false
set_option linter.unusedSimpArgs false
namespace Go.Proofs.Ai
open Go.RowKit
noncomputable section
/- 7 loop.example/g00513/impl.HonestReach -/
noncomputable def ft7 : Nat → Option FE := ftOf [(31, e31), (32, e32)]
def hint7 : Nat → Hint := fun _ => {}
def ord7 : Nat → List Nat := fun _ => []
theorem en7 (n : Nat) (a0 : Int × (List (Int × Int × Int)) × (List (Int × List (List (Int)))) × Int × Int × Int × Int × (List (Int × Int × Int × (List (Int × List (Int) × List (Int))) × Int)) × (List (Int × Int × Int)) × Int × (List (Int × (List (Int × Int × Int × (List (Int × List (Int) × List (Int))) × Int)))) × (List (Int × Int × List (Int) × (List (Int × Int × Int × Int × List (List (Int)))) × (List (Int × List (List (Int)))) × Int)) × List (Int) × List (Int) × (List (Int × Int × Int × Int × List (Int) × Int)) × (List (Int × Int × Int)) × Int × Int × Int) : runF tab ft7 hint7 ord7 Tryz.f7 [(true, [.i .i64, .l c176, .l c167, .i .i64, .i .i64, .i .i64, .i .i64, .l c171, .l c176, .i .i64, .l c110, .l c114, .l c3, .l c3, .l c117, .l c176, .i .i64, .i .i64, .i .i64])] [(false, [.l c3])] true n (a0) =
  ((pcut ((a0.1, a0.2.1), a0.2.2.2.2.2.2.2.2.2.2.2.2.1)).bind fun y1 =>
  some (rnS y1 0) : Option (List (Int))) := by kernel_rfl
def G7 (n : Nat) (a0 : Int × (List (Int × Int × Int)) × (List (Int × List (List (Int)))) × Int × Int × Int × Int × (List (Int × Int × Int × (List (Int × List (Int) × List (Int))) × Int)) × (List (Int × Int × Int)) × Int × (List (Int × (List (Int × Int × Int × (List (Int × List (Int) × List (Int))) × Int)))) × (List (Int × Int × List (Int) × (List (Int × Int × Int × Int × List (List (Int)))) × (List (Int × List (List (Int)))) × Int)) × List (Int) × List (Int) × (List (Int × Int × Int × Int × List (Int) × Int)) × (List (Int × Int × Int)) × Int × Int × Int) : Option (List (Int)) :=
  (pcut ((a0.1, a0.2.1), a0.2.2.2.2.2.2.2.2.2.2.2.2.1)).bind fun y2 =>
  some (rnS y2 0)
theorem g7 (n : Nat) (a0 : Int × (List (Int × Int × Int)) × (List (Int × List (List (Int)))) × Int × Int × Int × Int × (List (Int × Int × Int × (List (Int × List (Int) × List (Int))) × Int)) × (List (Int × Int × Int)) × Int × (List (Int × (List (Int × Int × Int × (List (Int × List (Int) × List (Int))) × Int)))) × (List (Int × Int × List (Int) × (List (Int × Int × Int × Int × List (List (Int)))) × (List (Int × List (List (Int)))) × Int)) × List (Int) × List (Int) × (List (Int × Int × Int × Int × List (Int) × Int)) × (List (Int × Int × Int)) × Int × Int × Int) : runF tab ft7 hint7 ord7 Tryz.f7 [(true, [.i .i64, .l c176, .l c167, .i .i64, .i .i64, .i .i64, .i .i64, .l c171, .l c176, .i .i64, .l c110, .l c114, .l c3, .l c3, .l c117, .l c176, .i .i64, .i .i64, .i .i64])] [(false, [.l c3])] true n (a0) = G7 n a0 := by
  refine (en7 n a0).trans ?_
  unfold G7
  exact (bind_c fun y2 => rfl)
def e7 : FE := ⟨[(true, [.i .i64, .l c176, .l c167, .i .i64, .i .i64, .i .i64, .i .i64, .l c171, .l c176, .i .i64, .l c110, .l c114, .l c3, .l c3, .l c117, .l c176, .i .i64, .i .i64, .i .i64])], [(false, [.l c3])], true, false, fun x => G7 0 x⟩
theorem p7 : ∀ (a0 : Int × (List (Int × Int × Int)) × (List (Int × List (List (Int)))) × Int × Int × Int × Int × (List (Int × Int × Int × (List (Int × List (Int) × List (Int))) × Int)) × (List (Int × Int × Int)) × Int × (List (Int × (List (Int × Int × Int × (List (Int × List (Int) × List (Int))) × Int)))) × (List (Int × Int × List (Int) × (List (Int × Int × Int × Int × List (List (Int)))) × (List (Int × List (List (Int)))) × Int)) × List (Int) × List (Int) × (List (Int × Int × Int × Int × List (Int) × Int)) × (List (Int × Int × Int)) × Int × Int × Int) y, okP e7.ps (a0) → e7.φ (a0) = some y → ∃ n, G7 n a0 = some y := fun a0 y ok h => ⟨0, h⟩
theorem r7 : ∀ x y, okP e7.ps x → e7.φ x = some y → ∃ n, runF tab ft7 hint7 ord7 Tryz.f7 e7.ps e7.rs e7.fr n x = some y := fun a0 y ok h =>
  match p7 _ y ok h with | ⟨n, hn⟩ => ⟨n, (g7 n _).trans hn⟩
theorem s7 : Sat Tryz.prog 7 e7 := sat_of_run Tryz.func7 (c := bodyOf Tryz.f7) (by kernel_rfl) (ne_of_dec (by kernel_rfl)) mixed tab_ok (by kernel_rfl) (ftOf_cons s31 (ftOf_cons s32 ftOf_nil)) (by kernel_rfl) (fun h => (Bool.false_ne_true h).elim) r7
/- 12 loop.example/g00513/laws.heldIntS -/
def ft12 : Nat → Option FE := ftOf []
def hint12 : Nat → Hint := fun
  | 2 => ⟨[0, 1, 5], [], [1], [], [4], []⟩
  | _ => {}
def ord12 : Nat → List Nat := fun _ => []
noncomputable def b12_rlrll : Code := Code.l (Code.l (Code.r (Code.l (Code.r (bodyOf Tryz.f12)))))
noncomputable def b12_rr : Code := Code.r (Code.r (bodyOf Tryz.f12))
def S12_2 (x0 : List (Int)) (x1 : Int) (x2 : Int) : St := ⟨[.d false c3 x0, .v (.int .i64 x1), .bad, .bad, .bad, .v (.int .i64 x2), .bad, .bad, .bad, .bad, .bad, .bad, .bad, .bad, .bad, .bad, .bad, .bad, .bad, .bad, .bad], []⟩
def X12_2_r (x0 : Int) : St := ⟨[.bad, .bad, .bad, .bad, .v (.int .i64 x0), .bad, .bad, .bad, .bad, .bad, .bad, .bad, .bad, .bad, .bad, .bad, .bad, .bad, .bad, .bad, .bad], []⟩
def X12_2_0 (x0 : Int) : St := ⟨[.bad, .v (.int .i64 x0), .bad, .bad, .bad, .bad, .bad, .bad, .bad, .bad, .bad, .bad, .bad, .bad, .bad, .bad, .bad, .bad, .bad, .bad, .bad], []⟩
theorem en12 (n : Nat) (a0 : List (Int)) (a1 : Int) : runF tab ft12 hint12 ord12 Tryz.f12 [(false, [.l c3]), (false, [.i .i64])] [(false, [.i .i64])] true n (a0, a1) =
  (loopK (codeK tab ft12 hint12 ord12 b12_rlrll n) (hint12 2) n (S12_2 a0 a1 0) (Ex.block 0 (sK tab ft12 hint12 ord12 n b12_rr (retK tab Tryz.f12 true [(false, [.i .i64])]))) : Option (Int)) := by kernel_rfl
theorem st12_2 {R : Type} (n m : Nat) (K : Ex → St → Option R) (x0 : List (Int)) (x1 : Int) (x2 : Int) : loopK (codeK tab ft12 hint12 ord12 b12_rlrll n) (hint12 2) (m + 1) (S12_2 x0 x1 x2) K =
  bif (decide (x2 < (x0.length : Int))) then
  (bif decide (0 ≤ x2) && decide (x2 < (x0.length : Int)) then
    (bif ((x0.getD x2.toNat d3) != x1) then
      (K .ret (X12_2_r (-1)))
      else (loopK (codeK tab ft12 hint12 ord12 b12_rlrll n) (hint12 2) m (S12_2 x0 (IntKind.wrap .i64 (x1 + 1)) (IntKind.wrap .i64 (x2 + 1))) K))
    else (none))
  else (K (.exit 0) (X12_2_0 x1)) := by kernel_rfl
theorem ex12_2_r (n : Nat) (x0 : Int) : (Ex.block 0 (sK tab ft12 hint12 ord12 n b12_rr (retK tab Tryz.f12 true [(false, [.i .i64])]))) .ret (X12_2_r x0) =
  (some x0 : Option (Int)) := by kernel_rfl
theorem ex12_2_0 (n : Nat) (x0 : Int) : (Ex.block 0 (sK tab ft12 hint12 ord12 n b12_rr (retK tab Tryz.f12 true [(false, [.i .i64])]))) (.exit 0) (X12_2_0 x0) =
  (some x0 : Option (Int)) := by kernel_rfl
abbrev ET12_2 : Type := (Int) ⊕ (Int)
def L12_2 (n : Nat) : Nat → (List (Int)) → (Int) → (Int) → Option ET12_2
  | 0, _, _, _ => none
  | m + 1, x0, x1, x2 =>
  bif (decide (x2 < (x0.length : Int))) then
  (bif decide (0 ≤ x2) && decide (x2 < (x0.length : Int)) then
    (bif ((x0.getD x2.toNat d3) != x1) then
      (some (.inl (-1)))
      else (L12_2 n m x0 (IntKind.wrap .i64 (x1 + 1)) (IntKind.wrap .i64 (x2 + 1))))
    else (none))
  else (some (.inr (x1)))
def DK12_2 {R : Type} (K : Ex → St → Option R) : ET12_2 → Option R
  | (.inl z) => K .ret (X12_2_r z)
  | (.inr z) => K (.exit 0) (X12_2_0 z)
theorem lp12_2 {R : Type} (n : Nat) : ∀ (m : Nat) (x0 : List (Int)) (x1 : Int) (x2 : Int) (K : Ex → St → Option R), loopK (codeK tab ft12 hint12 ord12 b12_rlrll n) (hint12 2) m (S12_2 x0 x1 x2) K = (L12_2 n m x0 x1 x2).bind (DK12_2 K)
  | 0, x0, x1, x2, K => rfl
  | m + 1, x0, x1, x2, K => by
    refine (st12_2 n m K x0 x1 x2).trans ?_
    rw [L12_2]
    have IH : ∀ (x0 : List (Int)) (x1 : Int) (x2 : Int), loopK (codeK tab ft12 hint12 ord12 b12_rlrll n) (hint12 2) m (S12_2 x0 x1 x2) K = (L12_2 n m x0 x1 x2).bind (DK12_2 K) := fun x0 x1 x2 => lp12_2 n m x0 x1 x2 K
    exact (cond_b (cond_b (cond_b rfl (IH x0 (IntKind.wrap .i64 (x1 + 1)) (IntKind.wrap .i64 (x2 + 1)))) rfl) rfl)
def E12_2_r (n : Nat) (x0 : Int) : Option (Int) :=
  some x0
def E12_2_0 (n : Nat) (x0 : Int) : Option (Int) :=
  some x0
def C12_2 (n : Nat) : ET12_2 → Option (Int)
  | (.inl z) => E12_2_r n z
  | (.inr z) => E12_2_0 n z
theorem exq12_2_r (n : Nat) (x0 : Int) : (some x0 : Option (Int)) = E12_2_r n x0 := by
  unfold E12_2_r
  exact rfl
theorem exq12_2_0 (n : Nat) (x0 : Int) : (some x0 : Option (Int)) = E12_2_0 n x0 := by
  unfold E12_2_0
  exact rfl
theorem cq12_2 (n : Nat) : ∀ e, DK12_2 (Ex.block 0 (sK tab ft12 hint12 ord12 n b12_rr (retK tab Tryz.f12 true [(false, [.i .i64])]))) e = C12_2 n e
  | (.inl z) => (ex12_2_r n z).trans (exq12_2_r n z)
  | (.inr z) => (ex12_2_0 n z).trans (exq12_2_0 n z)
def G12 (n : Nat) (a0 : List (Int)) (a1 : Int) : Option (Int) :=
  (L12_2 n n a0 a1 0).bind (C12_2 n)
theorem g12 (n : Nat) (a0 : List (Int)) (a1 : Int) : runF tab ft12 hint12 ord12 Tryz.f12 [(false, [.l c3]), (false, [.i .i64])] [(false, [.i .i64])] true n (a0, a1) = G12 n a0 a1 := by
  refine (en12 n a0 a1).trans ?_
  unfold G12
  exact ((lp12_2 n n a0 a1 0 _).trans (bind_c fun e => cq12_2 n e))
def heldI : List Int → Int → Int
  | [], k => k
  | x :: r, k => bif x != k then -1 else heldI r (k + 1)
def pheld (x : List Int × Int) : Option Int := bif decide (0 ≤ x.2) && decide (x.2 + (x.1.length : Nat) ≤ 4611686018427387904) then some (heldI x.1 x.2) else none
theorem pheld_some {x : List Int × Int} {y : Int} (h : pheld x = some y) : 0 ≤ x.2 ∧ x.2 + (x.1.length : Nat) ≤ 4611686018427387904 ∧ y = heldI x.1 x.2 := by
  unfold pheld at h
  cases hs : (decide (0 ≤ x.2) && decide (x.2 + (x.1.length : Nat) ≤ 4611686018427387904)) with
  | false => rw [hs] at h; cases h
  | true =>
    rw [hs] at h
    simp only [Bool.and_eq_true, decide_eq_true_eq] at hs
    exact ⟨hs.1, hs.2, (Option.some.inj h).symm⟩
def e12 : FE := ⟨[(false, [.l c3]), (false, [.i .i64])], [(false, [.i .i64])], true, false, pheld⟩
theorem heldLoop (n : Nat) (xs : List Int) (hl : xs.length ≤ maxLen) : ∀ (m i : Nat) (k : Int), 0 ≤ k → k + ((xs.length - i : Nat) : Int) ≤ 4611686018427387904 → i ≤ xs.length → xs.length - i < m → (L12_2 n m xs k (i : Int)).bind (C12_2 n) = some (heldI (xs.drop i) k)
  | 0, i, k, _, _, _, hm => by omega
  | m + 1, i, k, hk, hk2, hi, hm => by
    rw [L12_2]
    by_cases hlt : i < xs.length
    · obtain ⟨e1, e2, e3, e4, e5⟩ := at_i d3 hlt hl
      rw [e1, e2, e3, e4, e5, heldI, wrap_succ hk (by omega)]
      have ih := heldLoop n xs hl m (i + 1) (k + 1) (by omega) (by omega) (by omega) (by omega)
      cases hv : xs[i] != k with
      | true => rfl
      | false => exact ih
    · obtain ⟨e1, e2⟩ := out_i hlt
      rw [e1, e2]; rfl
theorem p12 : ∀ (a0 : List (Int)) (a1 : Int) y, okP e12.ps (a0, a1) → e12.φ (a0, a1) = some y → ∃ n, G12 n a0 a1 = some y := by
  intro l k y ok h
  obtain ⟨h0, h1, rfl⟩ := pheld_some h
  refine ⟨l.length + 1, ?_⟩
  have hl : l.length ≤ maxLen := ok.1.1
  have h := heldLoop (l.length + 1) l hl (l.length + 1) 0 k h0 (by rw [Nat.sub_zero]; exact h1) (by omega) (by omega)
  rw [List.drop_zero] at h
  exact h
theorem r12 : ∀ x y, okP e12.ps x → e12.φ x = some y → ∃ n, runF tab ft12 hint12 ord12 Tryz.f12 e12.ps e12.rs e12.fr n x = some y := fun ⟨a0, a1⟩ y ok h =>
  match p12 _ _ y ok h with | ⟨n, hn⟩ => ⟨n, (g12 n _ _).trans hn⟩
theorem s12 : Sat Tryz.prog 12 e12 := sat_of_run Tryz.func12 (c := bodyOf Tryz.f12) (by kernel_rfl) (ne_of_dec (by kernel_rfl)) mixed tab_ok (by kernel_rfl) ftOf_nil (by kernel_rfl) (fun h => (Bool.false_ne_true h).elim) r12
end
end Go.Proofs.Ai

set_option linter.unusedVariables false
namespace Go.Proofs.Ai
open Go.RowKit

def seqI : Int → Nat → List Int
  | _, 0 => []
  | k, n + 1 => k :: seqI (k + 1) n
theorem seqI_length : ∀ (n : Nat) (k : Int), (seqI k n).length = n
  | 0, k => rfl
  | n + 1, k => by simp [seqI, seqI_length n]
theorem seqI_get : ∀ (n : Nat) (k : Int) (i : Nat) (x : Int), (seqI k n)[i]? = some x → i < n ∧ x = k + i
  | 0, k, i, x, h => by simp [seqI] at h
  | n + 1, k, 0, x, h => by simp [seqI] at h; omega
  | n + 1, k, i + 1, x, h => by
    have := seqI_get n (k + 1) i x (by simpa [seqI] using h)
    omega
theorem held_seqI : ∀ (n : Nat) (k : Int), heldI (seqI k n) k = k + n
  | 0, k => by simp [seqI, heldI]
  | n + 1, k => by
    simp only [seqI, heldI]
    rw [show (k != k) = false by simp, cond_false, held_seqI n (k + 1)]
    omega
set_option maxRecDepth 100000 in
theorem w11_nil (a : Option Addr) (cap : Nat) (k : Int) (w : World) : Calls Tryz.prog 11 #[.slice a 0 cap, .int .i64 k] w fun e w' => e = .returned (.int .i64 k) ∧ w' = w := by
  go_enter Tryz.func11, Tryz.ntmps11
  go_wp2
  refine wp_loop_rounds 1 ?_
  rw [rounds_succ]
  go_wp2
  go_ret
  exact ⟨rfl, rfl⟩
theorem intOk_small {n : Int} (h0 : 0 ≤ n) (h1 : n ≤ 4611686018427387904) : IntOk .i64 n := by
  unfold IntOk
  have hmin : IntKind.min .i64 = -9223372036854775808 := rfl
  have hmax : IntKind.max .i64 = 9223372036854775807 := rfl
  simp [Lit.wf, hmin, hmax]
  omega
theorem mark11 {w : World} {F : Nat → Prop} {xs : List Int} {u : Value} {k : Int} (hF : ∀ b, F b → b < w.heap.size) (hL : Loose w F) (hr : Rep w F (.l c3) xs u) (h0 : 0 ≤ k) (h1 : k + (xs.length : Int) ≤ 4611686018427387904) :
    Calls Tryz.prog 11 #[u, .int .i64 k] w fun e w' => e = .returned (.int .i64 (k + xs.length)) ∧ Moved true F w w' ∧ Rep w' F (.l c3) (seqI k xs.length) u := by
  obtain ⟨a, cap, rfl, h2, h3, h4, h5⟩ := hr
  have h2' : xs.length ≤ cap := h2
  by_cases hne : xs = []
  · subst hne
    refine (w11_nil a cap k w).mono ?_
    rintro e w' ⟨rfl, rfl⟩
    refine ⟨by simp, ⟨rfl, rfl, rfl, Nat.le_refl _, fun b hb => .inl rfl⟩, ⟨a, cap, rfl, h2, h3, h4, fun h => absurd rfl h⟩⟩
  · obtain ⟨b, off, rfl, hb, hc⟩ := h5 hne
    obtain ⟨cur, T, hcur⟩ := hL b hb
    have hcell : ∀ i (x : Int), xs[i]? = some x → cur[off + i]? = some (.int .i64 x) := by
      intro i x hi
      obtain ⟨v, hv, rfl, _⟩ := hc i x hi
      rw [show off + i * c3.length = off + i by simp, cell_at hcur] at hv
      exact hv
    refine (w11 b off xs.length cap k w cur T hcur (fun i hi => ⟨xs[i], hcell i _ (List.getElem?_eq_getElem hi)⟩) (Nat.le_trans h2' h3) h0 h1).mono ?_
    rintro e w' ⟨rfl, hg, cur', hcur', hm⟩
    refine ⟨rfl, ⟨hg.os, hg.tape, hg.output, hg.size, fun q hq => ?_⟩, ?_⟩
    · by_cases e : q = b
      · subst e
        refine .inr ⟨rfl, hb, .inr ⟨cur, cur', T, (0, 0), hcur, hcur', hm.size, fun j v hj => ?_⟩⟩
        by_cases hin : off ≤ j ∧ j < off + xs.length
        · right
          obtain ⟨i, rfl⟩ : ∃ i, j = off + i := ⟨j - off, by omega⟩
          have hi : i < xs.length := by omega
          have := hcell i xs[i] (List.getElem?_eq_getElem hi)
          rw [this] at hj
          cases hj
          exact ⟨.i64, xs[i], k + i, rfl, hm.inn i hi, intOk_small (by omega) (by omega)⟩
        · left
          rw [hm.out j (by omega)]; exact hj
      · exact .inl (hg.block q hq (fun h => e (by cases h; rfl)))
    · refine ⟨_, cap, by show _ = Value.slice _ (seqI k xs.length).length cap; rw [seqI_length]; rfl, by show (seqI k xs.length).length ≤ cap; rw [seqI_length]; exact h2', h3, h4, fun _ => ⟨b, off, rfl, hb, fun i y hi => ?_⟩⟩
      obtain ⟨g1, g2⟩ := seqI_get _ _ _ _ (show (seqI k xs.length)[i]? = some y from hi)
      refine ⟨.int .i64 y, ?_, rfl, ?_⟩
      · rw [show off + i * c3.length = off + i by simp, cell_at hcur', hm.inn i g1, g2]
      · show IntOk .i64 y
        rw [g2]
        exact intOk_small (by omega) (by omega)
end Go.Proofs.Ai
