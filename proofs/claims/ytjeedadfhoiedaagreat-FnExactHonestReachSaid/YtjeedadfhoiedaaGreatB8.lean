/- A part of the proof that the law FnExactHonestReach returns true: contracts of the functions that it calls, or the plain facts behind them; each holds for every input that its premises name. -/
import Derived.Test.YtjeedadfhoiedaaGreatB7
import Derived.Lib.SlKeysI
import Derived.Maps.OwnSet
set_option linter.unusedVariables false
set_option linter.unusedSimpArgs false
namespace Go.Proofs.Ai
open Go.RowKit
noncomputable section
abbrev Ed : Type := Int × Int × Int
abbrev Gr : Type := Int × List (Int × Int × Int)
def edgeOk (s : Int) (e : Ed) : Bool := inB e.1 0 (IntKind.wrap .i64 (s - 1)) && inB e.2.1 0 (IntKind.wrap .i64 (s - 1)) && !(e.1 == e.2.1) && inB e.2.2 1 8
def vlist (s : Int) : Option Ed → List Ed → Bool
  | _, [] => true
  | none, e :: r => edgeOk s e && vlist s (some e) r
  | some q, e :: r => edgeOk s e && lessE q e && vlist s (some e) r
def valG (g : Gr) : Bool := inB g.1 1 8 && decide ((g.2.length : Int) ≤ 20) && vlist g.1 none g.2
def prev (xs : List Ed) : Nat → Option Ed
  | 0 => none
  | i + 1 => xs[i]?
theorem prev_i {xs : List Ed} {i : Nat} (h : i < xs.length) : prev xs (i + 1) = some xs[i] := List.getElem?_eq_getElem h
theorem wrap_pred {i : Nat} (h : i < 9223372036854775807) : IntKind.wrap .i64 (((i + 1 : Nat) : Int) - 1) = (i : Int) := by
  rw [wrap_id (by omega) (by omega)]; omega

/- 55 loop.example/g00513/spec.IsValidGraph -/
noncomputable def ft55 : Nat → Option FE := ftOf [(56, e56), (96, e96)]
def hint55 : Nat → Hint := fun
  | 2 => ⟨[1, 3], [32], [1], [32], [2], []⟩
  | _ => {}
def ord55 : Nat → List Nat := fun
  | 5 => [0, 1, 2, 3, 4, 5, 6, 7, 8, 9, 10, 11, 12, 13, 14, 15, 16, 17, 18, 19, 20, 21, 22, 23, 24, 25, 26, 27, 28, 29, 30, 31, 32, 33, 34, 35, 36, 37, 38, 39, 40, 41, 42, 43]
  | _ => []
noncomputable def b55_rlrll : Code := Code.l (Code.l (Code.r (Code.l (Code.r (bodyOf Tryz.f55)))))
noncomputable def b55_rr : Code := Code.r (Code.r (bodyOf Tryz.f55))
def S55_2 (x0 : Int) (x1 : Int) (x2 : List (Int × Int × Int)) : St := ⟨[.bad, .p 32 0, .bad, .v (.int .i64 x0), .bad, .bad, .bad, .bad, .bad, .bad, .bad, .bad, .bad, .bad, .bad, .bad, .bad, .bad, .bad, .bad, .bad, .bad, .bad, .bad, .bad, .bad, .bad, .bad, .bad, .bad, .bad, .bad, .bad, .bad, .bad, .bad, .bad, .bad, .bad, .bad, .bad, .bad, .bad, .bad, .bad, .bad, .bad, .bad, .bad, .bad, .bad, .bad, .bad, .bad, .bad, .bad, .bad, .bad, .bad, .bad, .bad, .bad, .bad, .bad, .bad, .bad, .bad, .bad, .bad, .bad], [(32, .box [.v (.int .i64 x1), .d false c176 x2])]⟩
def X55_2_r (x0 : Bool) : St := ⟨[.bad, .bad, .v (.bool x0), .bad, .bad, .bad, .bad, .bad, .bad, .bad, .bad, .bad, .bad, .bad, .bad, .bad, .bad, .bad, .bad, .bad, .bad, .bad, .bad, .bad, .bad, .bad, .bad, .bad, .bad, .bad, .bad, .bad, .bad, .bad, .bad, .bad, .bad, .bad, .bad, .bad, .bad, .bad, .bad, .bad, .bad, .bad, .bad, .bad, .bad, .bad, .bad, .bad, .bad, .bad, .bad, .bad, .bad, .bad, .bad, .bad, .bad, .bad, .bad, .bad, .bad, .bad, .bad, .bad, .bad, .bad], []⟩
def X55_2_0 (x0 : Int) (x1 : List (Int × Int × Int)) : St := ⟨[.bad, .p 32 0, .bad, .bad, .bad, .bad, .bad, .bad, .bad, .bad, .bad, .bad, .bad, .bad, .bad, .bad, .bad, .bad, .bad, .bad, .bad, .bad, .bad, .bad, .bad, .bad, .bad, .bad, .bad, .bad, .bad, .bad, .bad, .bad, .bad, .bad, .bad, .bad, .bad, .bad, .bad, .bad, .bad, .bad, .bad, .bad, .bad, .bad, .bad, .bad, .bad, .bad, .bad, .bad, .bad, .bad, .bad, .bad, .bad, .bad, .bad, .bad, .bad, .bad, .bad, .bad, .bad, .bad, .bad, .bad], [(32, .box [.v (.int .i64 x0), .d false c176 x1])]⟩
theorem en55 (n : Nat) (a0 : Int × (List (Int × Int × Int))) : runF tab ft55 hint55 ord55 Tryz.f55 [(true, [.i .i64, .l c176])] [(false, [.b])] true n (a0) =
  (loopK (codeK tab ft55 hint55 ord55 b55_rlrll n) (hint55 2) n (S55_2 0 a0.1 a0.2) (Ex.block 0 (sK tab ft55 hint55 ord55 n b55_rr (retK tab Tryz.f55 true [(false, [.b])]))) : Option (Bool)) := by kernel_rfl
theorem st55_2 {R : Type} (n m : Nat) (K : Ex → St → Option R) (x0 : Int) (x1 : Int) (x2 : List (Int × Int × Int)) : loopK (codeK tab ft55 hint55 ord55 b55_rlrll n) (hint55 2) (m + 1) (S55_2 x0 x1 x2) K =
  bif (decide (x0 < (x2.length : Int))) then
  (bif decide (0 ≤ x0) && decide (x0 < (x2.length : Int)) then
    (bif (!(inB ((x2.getD x0.toNat d176).1) 0 (IntKind.wrap .i64 (x1 - 1)))) then
      (K .ret (X55_2_r false))
      else (bif (!(inB ((x2.getD x0.toNat d176).2.1) 0 (IntKind.wrap .i64 (x1 - 1)))) then
        (K .ret (X55_2_r false))
        else (bif ((x2.getD x0.toNat d176).1 == (x2.getD x0.toNat d176).2.1) then
          (K .ret (X55_2_r false))
          else (bif (!(inB ((x2.getD x0.toNat d176).2.2) 1 8)) then
            (K .ret (X55_2_r false))
            else (bif (decide (x0 > 0)) then
              (bif decide (0 ≤ (IntKind.wrap .i64 (x0 - 1))) && decide ((IntKind.wrap .i64 (x0 - 1)) < (x2.length : Int)) then
                (bif (!(lessE (x2.getD (((IntKind.wrap .i64 (x0 - 1))).toNat) d176) (x2.getD x0.toNat d176))) then
                  (K .ret (X55_2_r false))
                  else (loopK (codeK tab ft55 hint55 ord55 b55_rlrll n) (hint55 2) m (S55_2 (IntKind.wrap .i64 (x0 + 1)) x1 x2) K))
                else (none))
              else (loopK (codeK tab ft55 hint55 ord55 b55_rlrll n) (hint55 2) m (S55_2 (IntKind.wrap .i64 (x0 + 1)) x1 x2) K))))))
    else (none))
  else (K (.exit 0) (X55_2_0 x1 x2)) := by kernel_rfl
theorem ex55_2_r (n : Nat) (x0 : Bool) : (Ex.block 0 (sK tab ft55 hint55 ord55 n b55_rr (retK tab Tryz.f55 true [(false, [.b])]))) .ret (X55_2_r x0) =
  (some x0 : Option (Bool)) := by kernel_rfl
theorem ex55_2_0 (n : Nat) (x0 : Int) (x1 : List (Int × Int × Int)) : (Ex.block 0 (sK tab ft55 hint55 ord55 n b55_rr (retK tab Tryz.f55 true [(false, [.b])]))) (.exit 0) (X55_2_0 x0 x1) =
  (bif (inB x0 1 8) then
  (some (decide ((x1.length : Int) ≤ 20)))
  else (some false) : Option (Bool)) := by kernel_rfl
abbrev ET55_2 : Type := (Bool) ⊕ (Int × (List (Int × Int × Int)))
def L55_2 (n : Nat) : Nat → (Int) → (Int) → (List (Int × Int × Int)) → Option ET55_2
  | 0, _, _, _ => none
  | m + 1, x0, x1, x2 =>
  bif (decide (x0 < (x2.length : Int))) then
  (bif decide (0 ≤ x0) && decide (x0 < (x2.length : Int)) then
    (bif (!(inB ((x2.getD x0.toNat d176).1) 0 (IntKind.wrap .i64 (x1 - 1)))) then
      (some (.inl (false)))
      else (bif (!(inB ((x2.getD x0.toNat d176).2.1) 0 (IntKind.wrap .i64 (x1 - 1)))) then
        (some (.inl (false)))
        else (bif ((x2.getD x0.toNat d176).1 == (x2.getD x0.toNat d176).2.1) then
          (some (.inl (false)))
          else (bif (!(inB ((x2.getD x0.toNat d176).2.2) 1 8)) then
            (some (.inl (false)))
            else (bif (decide (x0 > 0)) then
              (bif decide (0 ≤ (IntKind.wrap .i64 (x0 - 1))) && decide ((IntKind.wrap .i64 (x0 - 1)) < (x2.length : Int)) then
                (bif (!(lessE (x2.getD (((IntKind.wrap .i64 (x0 - 1))).toNat) d176) (x2.getD x0.toNat d176))) then
                  (some (.inl (false)))
                  else (L55_2 n m (IntKind.wrap .i64 (x0 + 1)) x1 x2))
                else (none))
              else (L55_2 n m (IntKind.wrap .i64 (x0 + 1)) x1 x2))))))
    else (none))
  else (some (.inr (x1, x2)))
def DK55_2 {R : Type} (K : Ex → St → Option R) : ET55_2 → Option R
  | (.inl z) => K .ret (X55_2_r z)
  | (.inr z) => K (.exit 0) (X55_2_0 z.1 z.2)
theorem lp55_2 {R : Type} (n : Nat) : ∀ (m : Nat) (x0 : Int) (x1 : Int) (x2 : List (Int × Int × Int)) (K : Ex → St → Option R), loopK (codeK tab ft55 hint55 ord55 b55_rlrll n) (hint55 2) m (S55_2 x0 x1 x2) K = (L55_2 n m x0 x1 x2).bind (DK55_2 K)
  | 0, x0, x1, x2, K => rfl
  | m + 1, x0, x1, x2, K => by
    refine (st55_2 n m K x0 x1 x2).trans ?_
    rw [L55_2]
    have IH : ∀ (x0 : Int) (x1 : Int) (x2 : List (Int × Int × Int)), loopK (codeK tab ft55 hint55 ord55 b55_rlrll n) (hint55 2) m (S55_2 x0 x1 x2) K = (L55_2 n m x0 x1 x2).bind (DK55_2 K) := fun x0 x1 x2 => lp55_2 n m x0 x1 x2 K
    exact (cond_b (cond_b (cond_b rfl (cond_b rfl (cond_b rfl (cond_b rfl (cond_b (cond_b (cond_b rfl (IH (IntKind.wrap .i64 (x0 + 1)) x1 x2)) rfl) (IH (IntKind.wrap .i64 (x0 + 1)) x1 x2)))))) rfl) rfl)
def E55_2_r (n : Nat) (x0 : Bool) : Option (Bool) :=
  some x0
def E55_2_0 (n : Nat) (x0 : Int) (x1 : List (Int × Int × Int)) : Option (Bool) :=
  bif (inB x0 1 8) then
  (some (decide ((x1.length : Int) ≤ 20)))
  else (some false)
def C55_2 (n : Nat) : ET55_2 → Option (Bool)
  | (.inl z) => E55_2_r n z
  | (.inr z) => E55_2_0 n z.1 z.2
theorem exq55_2_r (n : Nat) (x0 : Bool) : (some x0 : Option (Bool)) = E55_2_r n x0 := by
  unfold E55_2_r
  exact rfl
theorem exq55_2_0 (n : Nat) (x0 : Int) (x1 : List (Int × Int × Int)) : (bif (inB x0 1 8) then
  (some (decide ((x1.length : Int) ≤ 20)))
  else (some false) : Option (Bool)) = E55_2_0 n x0 x1 := by
  unfold E55_2_0
  exact (cond_c rfl rfl)
theorem cq55_2 (n : Nat) : ∀ e, DK55_2 (Ex.block 0 (sK tab ft55 hint55 ord55 n b55_rr (retK tab Tryz.f55 true [(false, [.b])]))) e = C55_2 n e
  | (.inl z) => (ex55_2_r n z).trans (exq55_2_r n z)
  | (.inr z) => (ex55_2_0 n z.1 z.2).trans (exq55_2_0 n z.1 z.2)
def G55 (n : Nat) (a0 : Int × (List (Int × Int × Int))) : Option (Bool) :=
  (L55_2 n n 0 a0.1 a0.2).bind (C55_2 n)
theorem g55 (n : Nat) (a0 : Int × (List (Int × Int × Int))) : runF tab ft55 hint55 ord55 Tryz.f55 [(true, [.i .i64, .l c176])] [(false, [.b])] true n (a0) = G55 n a0 := by
  refine (en55 n a0).trans ?_
  unfold G55
  exact ((lp55_2 n n 0 a0.1 a0.2 _).trans (bind_c fun e => cq55_2 n e))
def e55 : FE := ⟨[(true, [.i .i64, .l c176])], [(false, [.b])], true, false, fun x => some (valG x)⟩
theorem valLoop (n : Nat) (xs : List Ed) (s : Int) (hl : xs.length ≤ maxLen) : ∀ (m i : Nat), i ≤ xs.length → xs.length - i < m → L55_2 n m (i : Int) s xs = some (bif vlist s (prev xs i) (xs.drop i) then .inr (s, xs) else .inl false)
  | 0, i, _, hm => by omega
  | m + 1, i, hi, hm => by
    rw [L55_2]
    by_cases hlt : i < xs.length
    · obtain ⟨e1, e2, e3, e4, e5⟩ := at_i d176 hlt hl
      have ih := valLoop n xs s hl m (i + 1) (by omega) (by omega)
      rw [prev_i hlt] at ih
      rw [e1, e2, e3, e4, e5, ih]
      cases i with
      | zero =>
        have h0 : decide (((0 : Nat) : Int) > 0) = false := rfl
        simp only [prev, vlist, edgeOk, h0, Bool.and_self, cond_true, cond_false]
        cases inB xs[0].1 0 (IntKind.wrap .i64 (s - 1)) <;> cases inB xs[0].2.1 0 (IntKind.wrap .i64 (s - 1)) <;> cases xs[0].1 == xs[0].2.1 <;> cases inB xs[0].2.2 1 8 <;> rfl
      | succ i =>
        have h0 : decide (((i + 1 : Nat) : Int) > 0) = true := decide_eq_true (by omega)
        have hw : IntKind.wrap .i64 (((i + 1 : Nat) : Int) - 1) = (i : Int) := wrap_pred (by simp only [maxLen] at hl; omega)
        obtain ⟨d1, d2, d3, _, _⟩ := at_i d176 (show i < xs.length by omega) hl
        rw [h0, hw, d1, d2, d3, prev_i (by omega)]
        simp only [vlist, edgeOk, Bool.and_self, cond_true, cond_false]
        cases inB xs[i + 1].1 0 (IntKind.wrap .i64 (s - 1)) <;> cases inB xs[i + 1].2.1 0 (IntKind.wrap .i64 (s - 1)) <;> cases xs[i + 1].1 == xs[i + 1].2.1 <;> cases inB xs[i + 1].2.2 1 8 <;> cases lessE xs[i] xs[i + 1] <;> rfl
    · obtain ⟨e1, e2⟩ := out_i hlt
      rw [e1, e2]; cases prev xs i <;> rfl
theorem p55 : ∀ (a0 : Int × (List (Int × Int × Int))) y, okP e55.ps (a0) → e55.φ (a0) = some y → ∃ n, G55 n a0 = some y := by
  intro g y ok h
  obtain rfl : valG g = y := Option.some.inj h
  have hl : g.2.length ≤ maxLen := ok.1.2.1
  refine ⟨g.2.length + 1, ?_⟩
  have h := valLoop (g.2.length + 1) g.2 g.1 hl (g.2.length + 1) 0 (by omega) (by omega)
  rw [List.drop_zero] at h
  unfold G55
  show (L55_2 (g.2.length + 1) (g.2.length + 1) ((0 : Nat) : Int) g.1 g.2).bind (C55_2 (g.2.length + 1)) = some (valG g)
  rw [h]
  unfold valG
  show Option.bind (some (bif vlist g.1 none g.2 then _ else _)) _ = _
  cases vlist g.1 none g.2 with
  | false => simp [C55_2, E55_2_r]
  | true => cases hb : inB g.1 1 8 with
    | false => simp [C55_2, E55_2_0, hb]
    | true => simp [C55_2, E55_2_0, hb]
theorem r55 : ∀ x y, okP e55.ps x → e55.φ x = some y → ∃ n, runF tab ft55 hint55 ord55 Tryz.f55 e55.ps e55.rs e55.fr n x = some y := fun a0 y ok h =>
  match p55 _ y ok h with | ⟨n, hn⟩ => ⟨n, (g55 n _).trans hn⟩
theorem s55 : Sat Tryz.prog 55 e55 := sat_of_run Tryz.func55 (c := bodyOf Tryz.f55) (by kernel_rfl) (ne_of_dec (by kernel_rfl)) mixed tab_ok (by kernel_rfl) (ftOf_cons s56 (ftOf_cons s96 ftOf_nil)) (by kernel_rfl) (fun h => (Bool.false_ne_true h).elim) r55
/- 68 loop.example/g00513/impl.IsValidGraph -/
noncomputable def ft68 : Nat → Option FE := ftOf [(69, e69), (73, e73), (103, e103)]
def hint68 : Nat → Hint := fun
  | 4 => ⟨[1, 16, 17, 18], [32], [], [], [2], []⟩
  | _ => {}
def ord68 : Nat → List Nat := fun
  | 6 => [0, 1, 2, 3, 4, 5, 6, 7, 8, 9, 10, 11, 12, 13, 14, 15, 16, 17, 18, 19, 20, 21, 22, 23, 24, 25, 26, 27, 28, 29, 30, 31, 32, 33, 34, 35, 36, 37, 38, 39]
  | _ => []
noncomputable def b68_rrlrll : Code := Code.l (Code.l (Code.r (Code.l (Code.r (Code.r (bodyOf Tryz.f68))))))
noncomputable def b68_rrr : Code := Code.r (Code.r (Code.r (bodyOf Tryz.f68)))
def S68_4 (x0 : List (Int × Int × Int)) (x1 : Int) (x2 : Int) (x3 : Int) (x4 : List (Int × Int × Int)) : St := ⟨[.bad, .p 32 0, .bad, .bad, .bad, .bad, .bad, .bad, .bad, .bad, .bad, .bad, .bad, .bad, .bad, .bad, .d false c176 x0, .v (.int .i64 x1), .v (.int .i64 x2), .bad, .bad, .bad, .bad, .bad, .bad, .bad, .bad, .bad, .bad, .bad, .bad, .bad, .bad, .bad, .bad, .bad, .bad, .bad, .bad, .bad, .bad, .bad, .bad, .bad, .bad, .bad, .bad, .bad, .bad, .bad, .bad, .bad, .bad, .bad, .bad, .bad, .bad, .bad, .bad, .bad, .bad, .bad, .bad, .bad], [(32, .box [.v (.int .i64 x3), .d false c176 x4])]⟩
def X68_4_r (x0 : Bool) : St := ⟨[.bad, .bad, .v (.bool x0), .bad, .bad, .bad, .bad, .bad, .bad, .bad, .bad, .bad, .bad, .bad, .bad, .bad, .bad, .bad, .bad, .bad, .bad, .bad, .bad, .bad, .bad, .bad, .bad, .bad, .bad, .bad, .bad, .bad, .bad, .bad, .bad, .bad, .bad, .bad, .bad, .bad, .bad, .bad, .bad, .bad, .bad, .bad, .bad, .bad, .bad, .bad, .bad, .bad, .bad, .bad, .bad, .bad, .bad, .bad, .bad, .bad, .bad, .bad, .bad, .bad], []⟩
def X68_4_0 : St := ⟨[.bad, .bad, .bad, .bad, .bad, .bad, .bad, .bad, .bad, .bad, .bad, .bad, .bad, .bad, .bad, .bad, .bad, .bad, .bad, .bad, .bad, .bad, .bad, .bad, .bad, .bad, .bad, .bad, .bad, .bad, .bad, .bad, .bad, .bad, .bad, .bad, .bad, .bad, .bad, .bad, .bad, .bad, .bad, .bad, .bad, .bad, .bad, .bad, .bad, .bad, .bad, .bad, .bad, .bad, .bad, .bad, .bad, .bad, .bad, .bad, .bad, .bad, .bad, .bad], []⟩
theorem en68 (n : Nat) (a0 : Int × (List (Int × Int × Int))) : runF tab ft68 hint68 ord68 Tryz.f68 [(true, [.i .i64, .l c176])] [(false, [.b])] true n (a0) =
  (bif (!(inB a0.1 1 8)) then
  (some false)
  else (bif (decide ((a0.2.length : Int) > 20)) then
    (some false)
    else (loopK (codeK tab ft68 hint68 ord68 b68_rrlrll n) (hint68 4) n (S68_4 a0.2 (a0.2.length : Int) 0 a0.1 a0.2) (Ex.block 0 (sK tab ft68 hint68 ord68 n b68_rrr (retK tab Tryz.f68 true [(false, [.b])]))))) : Option (Bool)) := by kernel_rfl
theorem st68_4 {R : Type} (n m : Nat) (K : Ex → St → Option R) (x0 : List (Int × Int × Int)) (x1 : Int) (x2 : Int) (x3 : Int) (x4 : List (Int × Int × Int)) : loopK (codeK tab ft68 hint68 ord68 b68_rrlrll n) (hint68 4) (m + 1) (S68_4 x0 x1 x2 x3 x4) K =
  bif (decide (x2 < x1)) then
  (bif decide (0 ≤ x2) && decide (x2 < (x0.length : Int)) then
    (bif (!(T69 (x3, x4) ((x0.getD x2.toNat d176).1))) then
      (K .ret (X68_4_r false))
      else (bif (!(T69 (x3, x4) ((x0.getD x2.toNat d176).2.1))) then
        (K .ret (X68_4_r false))
        else (bif ((x0.getD x2.toNat d176).1 == (x0.getD x2.toNat d176).2.1) then
          (K .ret (X68_4_r false))
          else (bif (!(inB ((x0.getD x2.toNat d176).2.2) 1 8)) then
            (K .ret (X68_4_r false))
            else (bif (decide (x2 > 0)) then
              (bif decide (0 ≤ (IntKind.wrap .i64 (x2 - 1))) && decide ((IntKind.wrap .i64 (x2 - 1)) < (x4.length : Int)) then
                (bif (decide ((T103 (x4.getD (((IntKind.wrap .i64 (x2 - 1))).toNat) d176) (x0.getD x2.toNat d176)) ≥ 0)) then
                  (K .ret (X68_4_r false))
                  else (loopK (codeK tab ft68 hint68 ord68 b68_rrlrll n) (hint68 4) m (S68_4 x0 x1 (IntKind.wrap .i64 (x2 + 1)) x3 x4) K))
                else (none))
              else (loopK (codeK tab ft68 hint68 ord68 b68_rrlrll n) (hint68 4) m (S68_4 x0 x1 (IntKind.wrap .i64 (x2 + 1)) x3 x4) K))))))
    else (none))
  else (K (.exit 0) (X68_4_0 )) := by kernel_rfl
theorem ex68_4_r (n : Nat) (x0 : Bool) : (Ex.block 0 (sK tab ft68 hint68 ord68 n b68_rrr (retK tab Tryz.f68 true [(false, [.b])]))) .ret (X68_4_r x0) =
  (some x0 : Option (Bool)) := by kernel_rfl
theorem ex68_4_0 (n : Nat) : (Ex.block 0 (sK tab ft68 hint68 ord68 n b68_rrr (retK tab Tryz.f68 true [(false, [.b])]))) (.exit 0) (X68_4_0 ) =
  (some true : Option (Bool)) := by kernel_rfl
abbrev ET68_4 : Type := (Bool) ⊕ (Unit)
def L68_4 (n : Nat) : Nat → (List (Int × Int × Int)) → (Int) → (Int) → (Int) → (List (Int × Int × Int)) → Option ET68_4
  | 0, _, _, _, _, _ => none
  | m + 1, x0, x1, x2, x3, x4 =>
  bif (decide (x2 < x1)) then
  (bif decide (0 ≤ x2) && decide (x2 < (x0.length : Int)) then
    (bif (!(T69 (x3, x4) ((x0.getD x2.toNat d176).1))) then
      (some (.inl (false)))
      else (bif (!(T69 (x3, x4) ((x0.getD x2.toNat d176).2.1))) then
        (some (.inl (false)))
        else (bif ((x0.getD x2.toNat d176).1 == (x0.getD x2.toNat d176).2.1) then
          (some (.inl (false)))
          else (bif (!(inB ((x0.getD x2.toNat d176).2.2) 1 8)) then
            (some (.inl (false)))
            else (bif (decide (x2 > 0)) then
              (bif decide (0 ≤ (IntKind.wrap .i64 (x2 - 1))) && decide ((IntKind.wrap .i64 (x2 - 1)) < (x4.length : Int)) then
                (bif (decide ((T103 (x4.getD (((IntKind.wrap .i64 (x2 - 1))).toNat) d176) (x0.getD x2.toNat d176)) ≥ 0)) then
                  (some (.inl (false)))
                  else (L68_4 n m x0 x1 (IntKind.wrap .i64 (x2 + 1)) x3 x4))
                else (none))
              else (L68_4 n m x0 x1 (IntKind.wrap .i64 (x2 + 1)) x3 x4))))))
    else (none))
  else (some (.inr ()))
def DK68_4 {R : Type} (K : Ex → St → Option R) : ET68_4 → Option R
  | (.inl z) => K .ret (X68_4_r z)
  | (.inr z) => K (.exit 0) (X68_4_0)
theorem lp68_4 {R : Type} (n : Nat) : ∀ (m : Nat) (x0 : List (Int × Int × Int)) (x1 : Int) (x2 : Int) (x3 : Int) (x4 : List (Int × Int × Int)) (K : Ex → St → Option R), loopK (codeK tab ft68 hint68 ord68 b68_rrlrll n) (hint68 4) m (S68_4 x0 x1 x2 x3 x4) K = (L68_4 n m x0 x1 x2 x3 x4).bind (DK68_4 K)
  | 0, x0, x1, x2, x3, x4, K => rfl
  | m + 1, x0, x1, x2, x3, x4, K => by
    refine (st68_4 n m K x0 x1 x2 x3 x4).trans ?_
    rw [L68_4]
    have IH : ∀ (x0 : List (Int × Int × Int)) (x1 : Int) (x2 : Int) (x3 : Int) (x4 : List (Int × Int × Int)), loopK (codeK tab ft68 hint68 ord68 b68_rrlrll n) (hint68 4) m (S68_4 x0 x1 x2 x3 x4) K = (L68_4 n m x0 x1 x2 x3 x4).bind (DK68_4 K) := fun x0 x1 x2 x3 x4 => lp68_4 n m x0 x1 x2 x3 x4 K
    exact (cond_b (cond_b (cond_b rfl (cond_b rfl (cond_b rfl (cond_b rfl (cond_b (cond_b (cond_b rfl (IH x0 x1 (IntKind.wrap .i64 (x2 + 1)) x3 x4)) rfl) (IH x0 x1 (IntKind.wrap .i64 (x2 + 1)) x3 x4)))))) rfl) rfl)
def E68_4_r (n : Nat) (x0 : Bool) : Option (Bool) :=
  some x0
def E68_4_0 (n : Nat) : Option (Bool) :=
  some true
def C68_4 (n : Nat) : ET68_4 → Option (Bool)
  | (.inl z) => E68_4_r n z
  | (.inr z) => E68_4_0 n
theorem exq68_4_r (n : Nat) (x0 : Bool) : (some x0 : Option (Bool)) = E68_4_r n x0 := by
  unfold E68_4_r
  exact rfl
theorem exq68_4_0 (n : Nat) : (some true : Option (Bool)) = E68_4_0 n := by
  unfold E68_4_0
  exact rfl
theorem cq68_4 (n : Nat) : ∀ e, DK68_4 (Ex.block 0 (sK tab ft68 hint68 ord68 n b68_rrr (retK tab Tryz.f68 true [(false, [.b])]))) e = C68_4 n e
  | (.inl z) => (ex68_4_r n z).trans (exq68_4_r n z)
  | (.inr z) => (ex68_4_0 n).trans (exq68_4_0 n)
def G68 (n : Nat) (a0 : Int × (List (Int × Int × Int))) : Option (Bool) :=
  bif (!(inB a0.1 1 8)) then
  (some false)
  else (bif (decide ((a0.2.length : Int) > 20)) then
    (some false)
    else ((L68_4 n n a0.2 (a0.2.length : Int) 0 a0.1 a0.2).bind (C68_4 n)))
theorem g68 (n : Nat) (a0 : Int × (List (Int × Int × Int))) : runF tab ft68 hint68 ord68 Tryz.f68 [(true, [.i .i64, .l c176])] [(false, [.b])] true n (a0) = G68 n a0 := by
  refine (en68 n a0).trans ?_
  unfold G68
  exact (cond_c rfl (cond_c rfl ((lp68_4 n n a0.2 (a0.2.length : Int) 0 a0.1 a0.2 _).trans (bind_c fun e => cq68_4 n e))))
def e68 : FE := ⟨[(true, [.i .i64, .l c176])], [(false, [.b])], true, false, fun x => some (valG x)⟩
theorem cmp_less (a b : Ed) : decide (T103 a b ≥ 0) = !(lessE a b) := by
  unfold T103 lessE
  have key : ∀ x y : Int, cmpI x y = (if x < y then -1 else if x > y then 1 else 0) := by
    intro x y
    unfold cmpI
    by_cases h1 : x < y
    · simp [h1]
    · by_cases h2 : x > y <;> simp [h1, h2]
  by_cases h1 : a.1 < b.1
  · have : (cmpI a.1 b.1 != 0) = true := by rw [key, if_pos h1]; rfl
    simp only [orI, orO, this, cond_true, Option.getD_some]
    rw [key, if_pos h1]; simp [h1]
  · by_cases h2 : a.1 > b.1
    · have : (cmpI a.1 b.1 != 0) = true := by rw [key, if_neg h1, if_pos h2]; rfl
      have h3 : ¬ a.1 = b.1 := by omega
      simp only [orI, orO, this, cond_true, Option.getD_some]
      rw [key, if_neg h1, if_pos h2]; simp [h1, h3]
    · have h3 : a.1 = b.1 := by omega
      have : (cmpI a.1 b.1 != 0) = false := by rw [key, if_neg h1, if_neg h2]; rfl
      simp only [orI, orO, this, cond_false]
      by_cases h4 : a.2.1 < b.2.1
      · have : (cmpI a.2.1 b.2.1 != 0) = true := by rw [key, if_pos h4]; rfl
        simp only [this, cond_true, Option.getD_some]
        rw [key, if_pos h4]; simp [h1, h3, h4]
      · by_cases h5 : a.2.1 > b.2.1
        · have : (cmpI a.2.1 b.2.1 != 0) = true := by rw [key, if_neg h4, if_pos h5]; rfl
          simp only [this, cond_true, Option.getD_some]
          rw [key, if_neg h4, if_pos h5]; simp [h1, h3, h4]
        · have : (cmpI a.2.1 b.2.1 != 0) = false := by rw [key, if_neg h4, if_neg h5]; rfl
          simp only [this, cond_false]
          simp [h1, h3, h4]
theorem valLoopI (n : Nat) (xs : List Ed) (s : Int) (hl : xs.length ≤ maxLen) : ∀ (m i : Nat), i ≤ xs.length → xs.length - i < m → L68_4 n m xs (xs.length : Int) (i : Int) s xs = some (bif vlist s (prev xs i) (xs.drop i) then .inr () else .inl false)
  | 0, i, _, hm => by omega
  | m + 1, i, hi, hm => by
    rw [L68_4]
    by_cases hlt : i < xs.length
    · obtain ⟨e1, e2, e3, e4, e5⟩ := at_i d176 hlt hl
      have ih := valLoopI n xs s hl m (i + 1) (by omega) (by omega)
      rw [prev_i hlt] at ih
      rw [e1, e2, e3, e4, e5, ih]
      simp only [T69, cmp_less]
      cases i with
      | zero =>
        have h0 : decide (((0 : Nat) : Int) > 0) = false := rfl
        simp only [prev, vlist, edgeOk, h0, Bool.and_self, cond_true, cond_false]
        cases inB xs[0].1 0 (IntKind.wrap .i64 (s - 1)) <;> cases inB xs[0].2.1 0 (IntKind.wrap .i64 (s - 1)) <;> cases xs[0].1 == xs[0].2.1 <;> cases inB xs[0].2.2 1 8 <;> rfl
      | succ i =>
        have h0 : decide (((i + 1 : Nat) : Int) > 0) = true := decide_eq_true (by omega)
        have hw : IntKind.wrap .i64 (((i + 1 : Nat) : Int) - 1) = (i : Int) := wrap_pred (by simp only [maxLen] at hl; omega)
        obtain ⟨d1, d2, d3, _, _⟩ := at_i d176 (show i < xs.length by omega) hl
        rw [h0, hw, d1, d2, d3, prev_i (by omega)]
        simp only [vlist, edgeOk, Bool.and_self, cond_true, cond_false]
        cases inB xs[i + 1].1 0 (IntKind.wrap .i64 (s - 1)) <;> cases inB xs[i + 1].2.1 0 (IntKind.wrap .i64 (s - 1)) <;> cases xs[i + 1].1 == xs[i + 1].2.1 <;> cases inB xs[i + 1].2.2 1 8 <;> cases lessE xs[i] xs[i + 1] <;> rfl
    · obtain ⟨e1, e2⟩ := out_i hlt
      rw [e1, e2]; cases prev xs i <;> rfl
theorem p68 : ∀ (a0 : Int × (List (Int × Int × Int))) y, okP e68.ps (a0) → e68.φ (a0) = some y → ∃ n, G68 n a0 = some y := by
  intro g y ok h
  obtain rfl : valG g = y := Option.some.inj h
  have hl : g.2.length ≤ maxLen := ok.1.2.1
  refine ⟨g.2.length + 1, ?_⟩
  have h := valLoopI (g.2.length + 1) g.2 g.1 hl (g.2.length + 1) 0 (by omega) (by omega)
  rw [List.drop_zero] at h
  unfold G68
  show (bif !(inB g.1 1 8) then some false else bif decide ((g.2.length : Int) > 20) then some false else (L68_4 (g.2.length + 1) (g.2.length + 1) g.2 (g.2.length : Int) ((0 : Nat) : Int) g.1 g.2).bind (C68_4 (g.2.length + 1))) = some (valG g)
  rw [h]
  unfold valG
  show (bif !(inB g.1 1 8) then some false else bif decide ((g.2.length : Int) > 20) then some false else Option.bind (some (bif vlist g.1 none g.2 then _ else _)) _) = _
  have hd : decide ((g.2.length : Int) > 20) = !(decide ((g.2.length : Int) ≤ 20)) := by
    by_cases hh : (g.2.length : Int) ≤ 20
    · rw [decide_eq_true hh, decide_eq_false (by omega)]; rfl
    · rw [decide_eq_false hh, decide_eq_true (by omega)]; rfl
  rw [hd]
  cases inB g.1 1 8 <;> cases decide ((g.2.length : Int) ≤ 20) <;> cases vlist g.1 none g.2 <;> rfl
theorem r68 : ∀ x y, okP e68.ps x → e68.φ x = some y → ∃ n, runF tab ft68 hint68 ord68 Tryz.f68 e68.ps e68.rs e68.fr n x = some y := fun a0 y ok h =>
  match p68 _ y ok h with | ⟨n, hn⟩ => ⟨n, (g68 n _).trans hn⟩
theorem s68 : Sat Tryz.prog 68 e68 := sat_of_run Tryz.func68 (c := bodyOf Tryz.f68) (by kernel_rfl) (ne_of_dec (by kernel_rfl)) mixed tab_ok (by kernel_rfl) (ftOf_cons s69 (ftOf_cons s73 (ftOf_cons s103 ftOf_nil))) (by kernel_rfl) (fun h => (Bool.false_ne_true h).elim) r68
end
end Go.Proofs.Ai

set_option linter.unusedVariables false
set_option linter.unusedSimpArgs false
namespace Go.Proofs.Ai
open Go.RowKit
noncomputable section
/- 57 loop.example/g00513/spec.l21Reach -/
def ft57 : Nat → Option FE := ftOf []
def hint57 : Nat → Hint := fun
  | 3 => ⟨[1, 2, 5, 6], [64, 352], [2, 5], [64, 352], [], []⟩
  | 7 => ⟨[2, 5, 7], [64, 352], [5], [352], [], []⟩
  | 10 => ⟨[2, 5, 7, 8], [64, 352], [2, 5, 7], [64, 352], [], []⟩
  | _ => {}
def ord57 : Nat → List Nat := fun _ => []
noncomputable def b57_rrlrll : Code := Code.l (Code.l (Code.r (Code.l (Code.r (Code.r (bodyOf Tryz.f57))))))
noncomputable def b57_rrr : Code := Code.r (Code.r (Code.r (bodyOf Tryz.f57)))
noncomputable def b57_rrrlrll : Code := Code.l (Code.l (Code.r (Code.l (Code.r (Code.r (Code.r (bodyOf Tryz.f57)))))))
noncomputable def b57_rrrlrllrllrll : Code := Code.l (Code.l (Code.r (Code.l (Code.l (Code.r (Code.l (Code.l (Code.r (Code.l (Code.r (Code.r (Code.r (bodyOf Tryz.f57)))))))))))))
noncomputable def b57_rrrlrllrr : Code := Code.r (Code.r (Code.l (Code.l (Code.r (Code.l (Code.r (Code.r (Code.r (bodyOf Tryz.f57)))))))))
noncomputable def b57_rrrr : Code := Code.r (Code.r (Code.r (Code.r (bodyOf Tryz.f57))))
def S57_3 (x0 : List (Int)) (x1 : Int) (x2 : Int) (x3 : List (Int × Int × Int)) (x4 : List (Bool)) : St := ⟨[.bad, .d false c3 x0, .p 64 0, .bad, .bad, .o 352, .v (.int .i64 x1), .bad, .bad, .bad, .bad, .bad, .bad, .bad, .bad, .bad, .bad, .bad, .bad, .bad, .bad, .bad, .bad, .bad, .bad, .bad, .bad, .bad, .bad, .bad, .bad, .bad, .bad, .bad, .bad, .bad, .bad, .bad, .bad, .bad, .bad, .bad, .bad, .bad, .bad, .bad, .bad, .bad, .bad, .bad, .bad, .bad, .bad, .bad, .bad], [(64, .box [.v (.int .i64 x2), .d false c176 x3]), (352, .sl true 4 c4 x4)]⟩
def S57_7 (x0 : Int) (x1 : Int) (x2 : List (Int × Int × Int)) (x3 : List (Bool)) : St := ⟨[.bad, .bad, .p 64 0, .bad, .bad, .o 352, .bad, .v (.int .i64 x0), .bad, .bad, .bad, .bad, .bad, .bad, .bad, .bad, .bad, .bad, .bad, .bad, .bad, .bad, .bad, .bad, .bad, .bad, .bad, .bad, .bad, .bad, .bad, .bad, .bad, .bad, .bad, .bad, .bad, .bad, .bad, .bad, .bad, .bad, .bad, .bad, .bad, .bad, .bad, .bad, .bad, .bad, .bad, .bad, .bad, .bad, .bad], [(64, .box [.v (.int .i64 x1), .d false c176 x2]), (352, .sl true 4 c4 x3)]⟩
def S57_10 (x0 : Int) (x1 : Int) (x2 : Int) (x3 : List (Int × Int × Int)) (x4 : List (Bool)) : St := ⟨[.bad, .bad, .p 64 0, .bad, .bad, .o 352, .bad, .v (.int .i64 x0), .v (.int .i64 x1), .bad, .bad, .bad, .bad, .bad, .bad, .bad, .bad, .bad, .bad, .bad, .bad, .bad, .bad, .bad, .bad, .bad, .bad, .bad, .bad, .bad, .bad, .bad, .bad, .bad, .bad, .bad, .bad, .bad, .bad, .bad, .bad, .bad, .bad, .bad, .bad, .bad, .bad, .bad, .bad, .bad, .bad, .bad, .bad, .bad, .bad], [(64, .box [.v (.int .i64 x2), .d false c176 x3]), (352, .sl true 4 c4 x4)]⟩
def X57_10_4 (x0 : Int) (x1 : Int) (x2 : List (Int × Int × Int)) (x3 : List (Bool)) : St := ⟨[.bad, .bad, .p 64 0, .bad, .bad, .o 352, .bad, .v (.int .i64 x0), .bad, .bad, .bad, .bad, .bad, .bad, .bad, .bad, .bad, .bad, .bad, .bad, .bad, .bad, .bad, .bad, .bad, .bad, .bad, .bad, .bad, .bad, .bad, .bad, .bad, .bad, .bad, .bad, .bad, .bad, .bad, .bad, .bad, .bad, .bad, .bad, .bad, .bad, .bad, .bad, .bad, .bad, .bad, .bad, .bad, .bad, .bad], [(64, .box [.v (.int .i64 x1), .d false c176 x2]), (352, .sl true 4 c4 x3)]⟩
def X57_3_0 (x0 : Int) (x1 : List (Int × Int × Int)) (x2 : List (Bool)) : St := ⟨[.bad, .bad, .p 64 0, .bad, .bad, .o 352, .bad, .bad, .bad, .bad, .bad, .bad, .bad, .bad, .bad, .bad, .bad, .bad, .bad, .bad, .bad, .bad, .bad, .bad, .bad, .bad, .bad, .bad, .bad, .bad, .bad, .bad, .bad, .bad, .bad, .bad, .bad, .bad, .bad, .bad, .bad, .bad, .bad, .bad, .bad, .bad, .bad, .bad, .bad, .bad, .bad, .bad, .bad, .bad, .bad], [(64, .box [.v (.int .i64 x0), .d false c176 x1]), (352, .sl true 4 c4 x2)]⟩
def X57_7_2 (x0 : List (Bool)) : St := ⟨[.bad, .bad, .bad, .bad, .bad, .o 352, .bad, .bad, .bad, .bad, .bad, .bad, .bad, .bad, .bad, .bad, .bad, .bad, .bad, .bad, .bad, .bad, .bad, .bad, .bad, .bad, .bad, .bad, .bad, .bad, .bad, .bad, .bad, .bad, .bad, .bad, .bad, .bad, .bad, .bad, .bad, .bad, .bad, .bad, .bad, .bad, .bad, .bad, .bad, .bad, .bad, .bad, .bad, .bad, .bad], [(352, .sl true 4 c4 x0)]⟩
theorem en57 (n : Nat) (a0 : Int × (List (Int × Int × Int))) (a1 : List (Int)) : runF tab ft57 hint57 ord57 Tryz.f57 [(true, [.i .i64, .l c176]), (false, [.l c3])] [(false, [.l c4])] true n (a0, a1) =
  (bif decide (0 ≤ a0.1) && decide (a0.1 ≤ a0.1) && le47 (a0.1 * (1 : Nat)) && le63 a0.1 then
  (loopK (codeK tab ft57 hint57 ord57 b57_rrlrll n) (hint57 3) n (S57_3 a1 0 a0.1 a0.2 (List.replicate a0.1.toNat d4)) (Ex.block 0 (sK tab ft57 hint57 ord57 n b57_rrr (retK tab Tryz.f57 true [(false, [.l c4])]))))
  else (none) : Option (List (Bool))) := by kernel_rfl
theorem st57_3 {R : Type} (n m : Nat) (K : Ex → St → Option R) (x0 : List (Int)) (x1 : Int) (x2 : Int) (x3 : List (Int × Int × Int)) (x4 : List (Bool)) : loopK (codeK tab ft57 hint57 ord57 b57_rrlrll n) (hint57 3) (m + 1) (S57_3 x0 x1 x2 x3 x4) K =
  bif (decide (x1 < (x0.length : Int))) then
  (bif decide (0 ≤ x1) && decide (x1 < (x0.length : Int)) then
    (bif decide (0 ≤ (x0.getD x1.toNat d3)) && decide ((x0.getD x1.toNat d3) < (x4.length : Int)) then
      (loopK (codeK tab ft57 hint57 ord57 b57_rrlrll n) (hint57 3) m (S57_3 x0 (IntKind.wrap .i64 (x1 + 1)) x2 x3 (x4.set (((x0.getD x1.toNat d3)).toNat) true)) K)
      else (none))
    else (none))
  else (K (.exit 0) (X57_3_0 x2 x3 x4)) := by kernel_rfl
theorem ex57_3_0 (n : Nat) (x0 : Int) (x1 : List (Int × Int × Int)) (x2 : List (Bool)) : (Ex.block 0 (sK tab ft57 hint57 ord57 n b57_rrr (retK tab Tryz.f57 true [(false, [.l c4])]))) (.exit 0) (X57_3_0 x0 x1 x2) =
  (loopK (codeK tab ft57 hint57 ord57 b57_rrrlrll n) (hint57 7) n (S57_7 0 x0 x1 x2) (Ex.block 2 (sK tab ft57 hint57 ord57 n b57_rrrr (retK tab Tryz.f57 true [(false, [.l c4])]))) : Option (List (Bool))) := by kernel_rfl
theorem st57_7 {R : Type} (n m : Nat) (K : Ex → St → Option R) (x0 : Int) (x1 : Int) (x2 : List (Int × Int × Int)) (x3 : List (Bool)) : loopK (codeK tab ft57 hint57 ord57 b57_rrrlrll n) (hint57 7) (m + 1) (S57_7 x0 x1 x2 x3) K =
  bif (decide (x0 < x1)) then
  (loopK (codeK tab ft57 hint57 ord57 b57_rrrlrllrllrll n) (hint57 10) n (S57_10 x0 0 x1 x2 x3) (Ex.block 4 (Ex.block 3 (sK tab ft57 hint57 ord57 n b57_rrrlrllrr (lK tab ft57 hint57 ord57 n b57_rrrlrll (hint57 7) m K)))))
  else (K (.exit 2) (X57_7_2 x3)) := by kernel_rfl
theorem st57_10 {R : Type} (n m : Nat) (K : Ex → St → Option R) (x0 : Int) (x1 : Int) (x2 : Int) (x3 : List (Int × Int × Int)) (x4 : List (Bool)) : loopK (codeK tab ft57 hint57 ord57 b57_rrrlrllrllrll n) (hint57 10) (m + 1) (S57_10 x0 x1 x2 x3 x4) K =
  bif (decide (x1 < (x3.length : Int))) then
  (bif decide (0 ≤ x1) && decide (x1 < (x3.length : Int)) then
    (bif decide (0 ≤ (x3.getD x1.toNat d176).1) && decide ((x3.getD x1.toNat d176).1 < (x4.length : Int)) then
      (bif (x4.getD (((x3.getD x1.toNat d176).1).toNat) d4) then
        (bif decide (0 ≤ x1) && decide (x1 < (x3.length : Int)) then
          (bif decide (0 ≤ ((x3.getD x1.toNat d176).2).1) && decide (((x3.getD x1.toNat d176).2).1 < (x4.length : Int)) then
            (loopK (codeK tab ft57 hint57 ord57 b57_rrrlrllrllrll n) (hint57 10) m (S57_10 x0 (IntKind.wrap .i64 (x1 + 1)) x2 x3 (x4.set ((((x3.getD x1.toNat d176).2).1).toNat) true)) K)
            else (none))
          else (none))
        else (loopK (codeK tab ft57 hint57 ord57 b57_rrrlrllrllrll n) (hint57 10) m (S57_10 x0 (IntKind.wrap .i64 (x1 + 1)) x2 x3 x4) K))
      else (none))
    else (none))
  else (K (.exit 4) (X57_10_4 x0 x2 x3 x4)) := by kernel_rfl
theorem ex57_7_2 (n : Nat) (x0 : List (Bool)) : (Ex.block 2 (sK tab ft57 hint57 ord57 n b57_rrrr (retK tab Tryz.f57 true [(false, [.l c4])]))) (.exit 2) (X57_7_2 x0) =
  (some x0 : Option (List (Bool))) := by kernel_rfl
theorem ex57_10_4 {R : Type} (n m : Nat) (K : Ex → St → Option R) (x0 : Int) (x1 : Int) (x2 : List (Int × Int × Int)) (x3 : List (Bool)) : (Ex.block 4 (Ex.block 3 (sK tab ft57 hint57 ord57 n b57_rrrlrllrr (lK tab ft57 hint57 ord57 n b57_rrrlrll (hint57 7) m K)))) (.exit 4) (X57_10_4 x0 x1 x2 x3) =
  loopK (codeK tab ft57 hint57 ord57 b57_rrrlrll n) (hint57 7) m (S57_7 (IntKind.wrap .i64 (x0 + 1)) x1 x2 x3) K := by kernel_rfl
abbrev ET57_7 : Type := (List (Bool))
abbrev ET57_10 : Type := (Int × Int × (List (Int × Int × Int)) × List (Bool))
def L57_10 (n : Nat) : Nat → (Int) → (Int) → (Int) → (List (Int × Int × Int)) → (List (Bool)) → Option ET57_10
  | 0, _, _, _, _, _ => none
  | m + 1, x0, x1, x2, x3, x4 =>
  bif (decide (x1 < (x3.length : Int))) then
  (bif decide (0 ≤ x1) && decide (x1 < (x3.length : Int)) then
    (bif decide (0 ≤ (x3.getD x1.toNat d176).1) && decide ((x3.getD x1.toNat d176).1 < (x4.length : Int)) then
      (bif (x4.getD (((x3.getD x1.toNat d176).1).toNat) d4) then
        (bif decide (0 ≤ x1) && decide (x1 < (x3.length : Int)) then
          (bif decide (0 ≤ ((x3.getD x1.toNat d176).2).1) && decide (((x3.getD x1.toNat d176).2).1 < (x4.length : Int)) then
            (L57_10 n m x0 (IntKind.wrap .i64 (x1 + 1)) x2 x3 (x4.set ((((x3.getD x1.toNat d176).2).1).toNat) true))
            else (none))
          else (none))
        else (L57_10 n m x0 (IntKind.wrap .i64 (x1 + 1)) x2 x3 x4))
      else (none))
    else (none))
  else (some (x0, x2, x3, x4))
def DK57_10 {R : Type} (K : Ex → St → Option R) : ET57_10 → Option R := fun z => K (.exit 4) (X57_10_4 z.1 z.2.1 z.2.2.1 z.2.2.2)
theorem lp57_10 {R : Type} (n : Nat) : ∀ (m : Nat) (x0 : Int) (x1 : Int) (x2 : Int) (x3 : List (Int × Int × Int)) (x4 : List (Bool)) (K : Ex → St → Option R), loopK (codeK tab ft57 hint57 ord57 b57_rrrlrllrllrll n) (hint57 10) m (S57_10 x0 x1 x2 x3 x4) K = (L57_10 n m x0 x1 x2 x3 x4).bind (DK57_10 K)
  | 0, x0, x1, x2, x3, x4, K => rfl
  | m + 1, x0, x1, x2, x3, x4, K => by
    refine (st57_10 n m K x0 x1 x2 x3 x4).trans ?_
    rw [L57_10]
    have IH : ∀ (x0 : Int) (x1 : Int) (x2 : Int) (x3 : List (Int × Int × Int)) (x4 : List (Bool)), loopK (codeK tab ft57 hint57 ord57 b57_rrrlrllrllrll n) (hint57 10) m (S57_10 x0 x1 x2 x3 x4) K = (L57_10 n m x0 x1 x2 x3 x4).bind (DK57_10 K) := fun x0 x1 x2 x3 x4 => lp57_10 n m x0 x1 x2 x3 x4 K
    exact (cond_b (cond_b (cond_b (cond_b (cond_b (cond_b (IH x0 (IntKind.wrap .i64 (x1 + 1)) x2 x3 (x4.set ((((x3.getD x1.toNat d176).2).1).toNat) true)) rfl) rfl) (IH x0 (IntKind.wrap .i64 (x1 + 1)) x2 x3 x4)) rfl) rfl) rfl)
def E57_10_4 (n : Nat) (rec : (Int) → (Int) → (List (Int × Int × Int)) → (List (Bool)) → Option (ET57_7)) (x0 : Int) (x1 : Int) (x2 : List (Int × Int × Int)) (x3 : List (Bool)) : Option (ET57_7) :=
  rec (IntKind.wrap .i64 (x0 + 1)) x1 x2 x3
def C57_10 (n : Nat) (rec : (Int) → (Int) → (List (Int × Int × Int)) → (List (Bool)) → Option (ET57_7)) : ET57_10 → Option (ET57_7) := fun z => E57_10_4 n rec z.1 z.2.1 z.2.2.1 z.2.2.2
def L57_7 (n : Nat) : Nat → (Int) → (Int) → (List (Int × Int × Int)) → (List (Bool)) → Option ET57_7
  | 0, _, _, _, _ => none
  | m + 1, x0, x1, x2, x3 =>
  bif (decide (x0 < x1)) then
  ((L57_10 n n x0 0 x1 x2 x3).bind (C57_10 n (fun v0 v1 v2 v3 => L57_7 n m v0 v1 v2 v3)))
  else (some (x3))
def DK57_7 {R : Type} (K : Ex → St → Option R) : ET57_7 → Option R := fun z => K (.exit 2) (X57_7_2 z)
theorem exq57_10_4 {R : Type} (n m : Nat) (K : Ex → St → Option R) (IH : ∀ (x0 : Int) (x1 : Int) (x2 : List (Int × Int × Int)) (x3 : List (Bool)), loopK (codeK tab ft57 hint57 ord57 b57_rrrlrll n) (hint57 7) m (S57_7 x0 x1 x2 x3) K = (L57_7 n m x0 x1 x2 x3).bind (DK57_7 K)) (x0 : Int) (x1 : Int) (x2 : List (Int × Int × Int)) (x3 : List (Bool)) : (loopK (codeK tab ft57 hint57 ord57 b57_rrrlrll n) (hint57 7) m (S57_7 (IntKind.wrap .i64 (x0 + 1)) x1 x2 x3) K : Option R) = (E57_10_4 n (fun v0 v1 v2 v3 => L57_7 n m v0 v1 v2 v3) x0 x1 x2 x3).bind (DK57_7 K) := by
  unfold E57_10_4
  exact (IH (IntKind.wrap .i64 (x0 + 1)) x1 x2 x3)
theorem cq57_10 {R : Type} (n m : Nat) (K : Ex → St → Option R) (IH : ∀ (x0 : Int) (x1 : Int) (x2 : List (Int × Int × Int)) (x3 : List (Bool)), loopK (codeK tab ft57 hint57 ord57 b57_rrrlrll n) (hint57 7) m (S57_7 x0 x1 x2 x3) K = (L57_7 n m x0 x1 x2 x3).bind (DK57_7 K)) : ∀ e, DK57_10 (Ex.block 4 (Ex.block 3 (sK tab ft57 hint57 ord57 n b57_rrrlrllrr (lK tab ft57 hint57 ord57 n b57_rrrlrll (hint57 7) m K)))) e = (C57_10 n (fun v0 v1 v2 v3 => L57_7 n m v0 v1 v2 v3) e).bind (DK57_7 K) := fun z => (ex57_10_4 n m K z.1 z.2.1 z.2.2.1 z.2.2.2).trans (exq57_10_4 n m K IH z.1 z.2.1 z.2.2.1 z.2.2.2)
theorem lp57_7 {R : Type} (n : Nat) : ∀ (m : Nat) (x0 : Int) (x1 : Int) (x2 : List (Int × Int × Int)) (x3 : List (Bool)) (K : Ex → St → Option R), loopK (codeK tab ft57 hint57 ord57 b57_rrrlrll n) (hint57 7) m (S57_7 x0 x1 x2 x3) K = (L57_7 n m x0 x1 x2 x3).bind (DK57_7 K)
  | 0, x0, x1, x2, x3, K => rfl
  | m + 1, x0, x1, x2, x3, K => by
    refine (st57_7 n m K x0 x1 x2 x3).trans ?_
    rw [L57_7]
    have IH : ∀ (x0 : Int) (x1 : Int) (x2 : List (Int × Int × Int)) (x3 : List (Bool)), loopK (codeK tab ft57 hint57 ord57 b57_rrrlrll n) (hint57 7) m (S57_7 x0 x1 x2 x3) K = (L57_7 n m x0 x1 x2 x3).bind (DK57_7 K) := fun x0 x1 x2 x3 => lp57_7 n m x0 x1 x2 x3 K
    exact (cond_b ((lp57_10 n n x0 0 x1 x2 x3 _).trans (bind_b fun e => cq57_10 n m K (fun v0 v1 v2 v3 => IH v0 v1 v2 v3) e)) rfl)
def E57_7_2 (n : Nat) (x0 : List (Bool)) : Option (List (Bool)) :=
  some x0
def C57_7 (n : Nat) : ET57_7 → Option (List (Bool)) := fun z => E57_7_2 n z
theorem exq57_7_2 (n : Nat) (x0 : List (Bool)) : (some x0 : Option (List (Bool))) = E57_7_2 n x0 := by
  unfold E57_7_2
  exact rfl
theorem cq57_7 (n : Nat) : ∀ e, DK57_7 (Ex.block 2 (sK tab ft57 hint57 ord57 n b57_rrrr (retK tab Tryz.f57 true [(false, [.l c4])]))) e = C57_7 n e := fun z => (ex57_7_2 n z).trans (exq57_7_2 n z)
abbrev ET57_3 : Type := (Int × (List (Int × Int × Int)) × List (Bool))
def L57_3 (n : Nat) : Nat → (List (Int)) → (Int) → (Int) → (List (Int × Int × Int)) → (List (Bool)) → Option ET57_3
  | 0, _, _, _, _, _ => none
  | m + 1, x0, x1, x2, x3, x4 =>
  bif (decide (x1 < (x0.length : Int))) then
  (bif decide (0 ≤ x1) && decide (x1 < (x0.length : Int)) then
    (bif decide (0 ≤ (x0.getD x1.toNat d3)) && decide ((x0.getD x1.toNat d3) < (x4.length : Int)) then
      (L57_3 n m x0 (IntKind.wrap .i64 (x1 + 1)) x2 x3 (x4.set (((x0.getD x1.toNat d3)).toNat) true))
      else (none))
    else (none))
  else (some (x2, x3, x4))
def DK57_3 {R : Type} (K : Ex → St → Option R) : ET57_3 → Option R := fun z => K (.exit 0) (X57_3_0 z.1 z.2.1 z.2.2)
theorem lp57_3 {R : Type} (n : Nat) : ∀ (m : Nat) (x0 : List (Int)) (x1 : Int) (x2 : Int) (x3 : List (Int × Int × Int)) (x4 : List (Bool)) (K : Ex → St → Option R), loopK (codeK tab ft57 hint57 ord57 b57_rrlrll n) (hint57 3) m (S57_3 x0 x1 x2 x3 x4) K = (L57_3 n m x0 x1 x2 x3 x4).bind (DK57_3 K)
  | 0, x0, x1, x2, x3, x4, K => rfl
  | m + 1, x0, x1, x2, x3, x4, K => by
    refine (st57_3 n m K x0 x1 x2 x3 x4).trans ?_
    rw [L57_3]
    have IH : ∀ (x0 : List (Int)) (x1 : Int) (x2 : Int) (x3 : List (Int × Int × Int)) (x4 : List (Bool)), loopK (codeK tab ft57 hint57 ord57 b57_rrlrll n) (hint57 3) m (S57_3 x0 x1 x2 x3 x4) K = (L57_3 n m x0 x1 x2 x3 x4).bind (DK57_3 K) := fun x0 x1 x2 x3 x4 => lp57_3 n m x0 x1 x2 x3 x4 K
    exact (cond_b (cond_b (cond_b (IH x0 (IntKind.wrap .i64 (x1 + 1)) x2 x3 (x4.set (((x0.getD x1.toNat d3)).toNat) true)) rfl) rfl) rfl)
def E57_3_0 (n : Nat) (x0 : Int) (x1 : List (Int × Int × Int)) (x2 : List (Bool)) : Option (List (Bool)) :=
  (L57_7 n n 0 x0 x1 x2).bind (C57_7 n)
def C57_3 (n : Nat) : ET57_3 → Option (List (Bool)) := fun z => E57_3_0 n z.1 z.2.1 z.2.2
theorem exq57_3_0 (n : Nat) (x0 : Int) (x1 : List (Int × Int × Int)) (x2 : List (Bool)) : (loopK (codeK tab ft57 hint57 ord57 b57_rrrlrll n) (hint57 7) n (S57_7 0 x0 x1 x2) (Ex.block 2 (sK tab ft57 hint57 ord57 n b57_rrrr (retK tab Tryz.f57 true [(false, [.l c4])]))) : Option (List (Bool))) = E57_3_0 n x0 x1 x2 := by
  unfold E57_3_0
  exact ((lp57_7 n n 0 x0 x1 x2 _).trans (bind_c fun e => cq57_7 n e))
theorem cq57_3 (n : Nat) : ∀ e, DK57_3 (Ex.block 0 (sK tab ft57 hint57 ord57 n b57_rrr (retK tab Tryz.f57 true [(false, [.l c4])]))) e = C57_3 n e := fun z => (ex57_3_0 n z.1 z.2.1 z.2.2).trans (exq57_3_0 n z.1 z.2.1 z.2.2)
def G57 (n : Nat) (a0 : Int × (List (Int × Int × Int))) (a1 : List (Int)) : Option (List (Bool)) :=
  bif decide (0 ≤ a0.1) && decide (a0.1 ≤ a0.1) && le47 (a0.1 * (1 : Nat)) && le63 a0.1 then
  ((L57_3 n n a1 0 a0.1 a0.2 (List.replicate a0.1.toNat d4)).bind (C57_3 n))
  else (none)
theorem g57 (n : Nat) (a0 : Int × (List (Int × Int × Int))) (a1 : List (Int)) : runF tab ft57 hint57 ord57 Tryz.f57 [(true, [.i .i64, .l c176]), (false, [.l c3])] [(false, [.l c4])] true n (a0, a1) = G57 n a0 a1 := by
  refine (en57 n a0 a1).trans ?_
  unfold G57
  exact (cond_c ((lp57_3 n n a1 0 a0.1 a0.2 (List.replicate a0.1.toNat d4) _).trans (bind_c fun e => cq57_3 n e)) rfl)
def relax (seen : List Bool) (e : Ed) : List Bool := bif seen.getD e.1.toNat false then seen.set e.2.1.toNat true else seen
def rounds (es : List Ed) : Nat → List Bool → List Bool
  | 0, s => s
  | k + 1, s => rounds es k (es.foldl relax s)
def reachS (g : Gr) (v : Int) : List Bool := rounds g.2 g.1.toNat ((List.replicate g.1.toNat false).set v.toNat true)
def preach (x : Gr × List Int) : Option (List Bool) := match x.2 with
  | [v] => bif valG x.1 && (decide (0 ≤ v) && decide (v < x.1.1)) then some (reachS x.1 v) else none
  | _ => none
theorem preach_some {x : Gr × List Int} {y : List Bool} (h : preach x = some y) : ∃ v, x.2 = [v] ∧ valG x.1 = true ∧ 0 ≤ v ∧ v < x.1.1 ∧ y = reachS x.1 v := by
  obtain ⟨g, st⟩ := x
  unfold preach at h
  simp only at h ⊢
  split at h
  · rename_i v
    cases hd : valG g && (decide (0 ≤ v) && decide (v < g.1)) with
    | false => rw [hd] at h; cases h
    | true =>
      rw [hd] at h
      simp only [Bool.and_eq_true, decide_eq_true_eq] at hd
      exact ⟨v, rfl, hd.1, hd.2.1, hd.2.2, (Option.some.inj h).symm⟩
  · cases h
theorem vlist_all {s : Int} : ∀ (p : Option Ed) (xs : List Ed), vlist s p xs = true → ∀ e ∈ xs, edgeOk s e = true
  | _, [], _, e, h => by simp at h
  | none, x :: r, hv, e, h => by
    simp only [vlist, Bool.and_eq_true] at hv
    rcases List.mem_cons.1 h with h | h
    · rw [h]; exact hv.1
    · exact vlist_all _ r hv.2 e h
  | some q, x :: r, hv, e, h => by
    simp only [vlist, Bool.and_eq_true] at hv
    rcases List.mem_cons.1 h with h | h
    · rw [h]; exact hv.1.1
    · exact vlist_all _ r hv.2 e h
theorem valG_spec {g : Gr} (h : valG g = true) : 1 ≤ g.1 ∧ g.1 ≤ 8 ∧ g.2.length ≤ 20 ∧ ∀ e ∈ g.2, 0 ≤ e.1 ∧ e.1 < g.1 ∧ 0 ≤ e.2.1 ∧ e.2.1 < g.1 := by
  unfold valG inB at h
  simp only [Bool.and_eq_true, decide_eq_true_eq] at h
  obtain ⟨⟨⟨h1, h2⟩, h3⟩, h4⟩ := h
  refine ⟨h1, h2, by omega, fun e he => ?_⟩
  have := vlist_all _ _ h4 e he
  have hw : IntKind.wrap .i64 (g.1 - 1) = g.1 - 1 := wrap_id (by omega) (by omega)
  unfold edgeOk inB at this
  rw [hw] at this
  simp only [Bool.and_eq_true, decide_eq_true_eq] at this
  obtain ⟨⟨⟨⟨a1, a2⟩, a3, a4⟩, _⟩, _⟩ := this
  omega
theorem relax_length (s : List Bool) (e : Ed) : (relax s e).length = s.length := by
  unfold relax
  cases s.getD e.1.toNat false <;> simp
theorem fold_length : ∀ (es : List Ed) (s : List Bool), (es.foldl relax s).length = s.length
  | [], s => rfl
  | e :: r, s => by rw [List.foldl_cons, fold_length r, relax_length]
def e57 : FE := ⟨[(true, [.i .i64, .l c176]), (false, [.l c3])], [(false, [.l c4])], true, false, preach⟩
theorem relaxLoop (n : Nat) (r s : Int) (es : List Ed) (hi : ∀ e ∈ es, 0 ≤ e.1 ∧ e.1 < s ∧ 0 ≤ e.2.1 ∧ e.2.1 < s) (hlen : es.length ≤ 20) : ∀ (m i : Nat) (seen : List Bool), i ≤ es.length → seen.length = s.toNat → es.length - i < m →
    L57_10 n m r (i : Int) s es seen = some (r, s, es, (es.drop i).foldl relax seen)
  | 0, i, seen, _, _, hm => by omega
  | m + 1, i, seen, hle, hs, hm => by
    rw [L57_10]
    by_cases hlt : i < es.length
    · obtain ⟨e1, e2, e3, e4, e5⟩ := at_i d176 hlt (by simp only [maxLen]; omega)
      obtain ⟨a1, a2, a3, a4⟩ := hi es[i] (List.getElem_mem hlt)
      have f1 : decide (0 ≤ es[i].1) = true := decide_eq_true a1
      have f2 : decide (es[i].1 < (seen.length : Int)) = true := decide_eq_true (by omega)
      have f3 : decide (0 ≤ es[i].2.1) = true := decide_eq_true a3
      have f4 : decide (es[i].2.1 < (seen.length : Int)) = true := decide_eq_true (by omega)
      have ih := fun seen h => relaxLoop n r s es hi hlen m (i + 1) seen (by omega) h (by omega)
      rw [e1, e2, e3, e4, e5, f1, f2, f3, f4, List.foldl_cons]
      have hd : seen.getD es[i].1.toNat d4 = seen.getD es[i].1.toNat false := rfl
      rw [hd]
      unfold relax at ih ⊢
      cases hk : seen.getD es[i].1.toNat false with
      | false => exact ih seen hs
      | true => exact ih (seen.set es[i].2.1.toNat true) (by simpa using hs)
    · obtain ⟨e1, e2⟩ := out_i hlt
      rw [e1, e2]; rfl
theorem reachLoop (n : Nat) (s : Int) (es : List Ed) (hi : ∀ e ∈ es, 0 ≤ e.1 ∧ e.1 < s ∧ 0 ≤ e.2.1 ∧ e.2.1 < s) (hs8 : s ≤ 8) (hlen : es.length ≤ 20) (hn : es.length < n := by omega) : ∀ (m r : Nat) (seen : List Bool), (r : Int) ≤ s → seen.length = s.toNat → s.toNat - r < m →
    L57_7 n m (r : Int) s es seen = some (rounds es (s.toNat - r) seen)
  | 0, r, seen, _, _, hm => by omega
  | m + 1, r, seen, hle, hs, hm => by
    rw [L57_7]
    by_cases hlt : (r : Int) < s
    · rw [decide_eq_true hlt]
      have h := relaxLoop n (r : Int) s es hi hlen n 0 seen (by omega) hs (by omega)
      rw [List.drop_zero] at h
      show (L57_10 n n (r : Int) ((0 : Nat) : Int) s es seen).bind _ = _
      rw [h]
      have hw : IntKind.wrap .i64 ((r : Int) + 1) = ((r + 1 : Nat) : Int) := by rw [wrap_succ (by omega) (by omega)]; rfl
      show L57_7 n m (IntKind.wrap .i64 ((r : Int) + 1)) s es (es.foldl relax seen) = _
      rw [hw, reachLoop n s es hi hs8 hlen hn m (r + 1) _ (by omega) (by rw [fold_length]; exact hs) (by omega)]
      rw [show s.toNat - r = (s.toNat - (r + 1)) + 1 by omega]
      rfl
    · rw [decide_eq_false hlt]
      rw [show s.toNat - r = 0 by omega]
      rfl
theorem p57 : ∀ (a0 : Int × (List (Int × Int × Int))) (a1 : List (Int)) y, okP e57.ps (a0, a1) → e57.φ (a0, a1) = some y → ∃ n, G57 n a0 a1 = some y := by
  intro g st y ok h
  obtain ⟨v, rfl, hv, h0, h1, rfl⟩ := preach_some h
  obtain ⟨s, es⟩ := g
  simp only at hv h0 h1
  obtain ⟨hs1, hs8, hlen, hall⟩ := valG_spec hv
  simp only at hs1 hs8 hlen hall
  have hi : ∀ e ∈ es, 0 ≤ e.1 ∧ e.1 < s ∧ 0 ≤ e.2.1 ∧ e.2.1 < s := hall
  refine ⟨es.length + 20, ?_⟩
  have hc : (decide (0 ≤ s) && decide (s ≤ s) && le47 (s * (1 : Nat)) && le63 s) = true := by
    rw [le47_eq, le63_eq, decide_eq_true (show 0 ≤ s by omega), decide_eq_true (show s ≤ s by omega), decide_eq_true (show s * ((1 : Nat) : Int) ≤ 140737488355328 by omega), decide_eq_true (show s ≤ 9223372036854775807 by omega)]
    rfl
  have hlr : (List.replicate s.toNat d4).length = s.toNat := List.length_replicate
  have l1 : L57_3 (es.length + 20) (es.length + 20) [v] 0 s es (List.replicate s.toNat d4) = some (s, es, (List.replicate s.toNat false).set v.toNat true) := by
    have e1 : decide ((0 : Int) < (([v] : List Int).length : Int)) = true := rfl
    have e2 : decide ((0 : Int) ≤ 0) = true := rfl
    have e3 : decide (0 ≤ ([v] : List Int).getD (0 : Int).toNat d3) = true := decide_eq_true h0
    have e4 : decide (([v] : List Int).getD (0 : Int).toNat d3 < ((List.replicate s.toNat d4).length : Int)) = true := by
      rw [hlr]
      exact decide_eq_true (show v < (s.toNat : Int) by omega)
    have e5 : IntKind.wrap .i64 ((0 : Int) + 1) = 1 := by decide
    have e6 : decide ((1 : Int) < (([v] : List Int).length : Int)) = false := rfl
    rw [L57_3, e1, e2, e3, e4, e5, L57_3, e6]
    rfl
  have l2 := reachLoop (es.length + 20) s es hi (by omega) hlen (by omega) (es.length + 20) 0 ((List.replicate s.toNat false).set v.toNat true) (by omega) (by simp) (by omega)
  unfold G57
  simp only at hc ⊢
  rw [hc, l1]
  show (L57_7 (es.length + 20) (es.length + 20) ((0 : Nat) : Int) s es ((List.replicate s.toNat false).set v.toNat true)).bind (C57_7 (es.length + 20)) = _
  rw [l2]
  rfl
theorem r57 : ∀ x y, okP e57.ps x → e57.φ x = some y → ∃ n, runF tab ft57 hint57 ord57 Tryz.f57 e57.ps e57.rs e57.fr n x = some y := fun ⟨a0, a1⟩ y ok h =>
  match p57 _ _ y ok h with | ⟨n, hn⟩ => ⟨n, (g57 n _ _).trans hn⟩
theorem s57 : Sat Tryz.prog 57 e57 := sat_of_run Tryz.func57 (c := bodyOf Tryz.f57) (by kernel_rfl) (ne_of_dec (by kernel_rfl)) mixed tab_ok (by kernel_rfl) ftOf_nil (by kernel_rfl) (fun h => (Bool.false_ne_true h).elim) r57
/- 21 loop.example/g00513/spec.ReachableNodes -/
noncomputable def ft21 : Nat → Option FE := ftOf [(55, e55), (56, e56), (57, e57)]
def hint21 : Nat → Hint := fun
  | 6 => ⟨[2, 5, 6, 7], [64, 256], [5], [256], [], []⟩
  | _ => {}
def ord21 : Nat → List Nat := fun _ => []
noncomputable def b21_rrrrlrll : Code := Code.l (Code.l (Code.r (Code.l (Code.r (Code.r (Code.r (Code.r (bodyOf Tryz.f21))))))))
noncomputable def b21_rrrrr : Code := Code.r (Code.r (Code.r (Code.r (Code.r (bodyOf Tryz.f21)))))
def S21_6 (x0 : List (Bool)) (x1 : Int) (x2 : Int) (x3 : List (Int × Int × Int)) (x4 : List (Int)) : St := ⟨[.bad, .bad, .p 64 0, .bad, .bad, .o 256, .d true c4 x0, .v (.int .i64 x1), .bad, .bad, .bad, .bad, .bad, .bad, .bad, .bad, .bad, .bad, .bad, .bad, .bad, .bad, .bad, .bad, .bad, .bad, .bad, .bad, .bad, .bad, .bad, .bad, .bad, .bad, .bad, .bad, .bad, .bad, .bad, .bad], [(64, .box [.v (.int .i64 x2), .d false c176 x3]), (256, .sl true 3 c3 x4)]⟩
def X21_6_0 (x0 : List (Int)) : St := ⟨[.bad, .bad, .bad, .bad, .bad, .o 256, .bad, .bad, .bad, .bad, .bad, .bad, .bad, .bad, .bad, .bad, .bad, .bad, .bad, .bad, .bad, .bad, .bad, .bad, .bad, .bad, .bad, .bad, .bad, .bad, .bad, .bad, .bad, .bad, .bad, .bad, .bad, .bad, .bad, .bad], [(256, .sl true 3 c3 x0)]⟩
theorem en21 (n : Nat) (a0 : Int × (List (Int × Int × Int))) (a1 : Int) : runF tab ft21 hint21 ord21 Tryz.f21 [(true, [.i .i64, .l c176]), (false, [.i .i64])] [(false, [.l c3])] true n (a0, a1) =
  (bif (!(valG a0)) then
  (some ([]))
  else (bif (!(inB a1 0 (IntKind.wrap .i64 (a0.1 - 1)))) then
    (some ([]))
    else ((preach (a0, [a1])).bind fun y1 =>
      loopK (codeK tab ft21 hint21 ord21 b21_rrrrlrll n) (hint21 6) n (S21_6 y1 0 a0.1 a0.2 ([])) (Ex.block 0 (sK tab ft21 hint21 ord21 n b21_rrrrr (retK tab Tryz.f21 true [(false, [.l c3])]))))) : Option (List (Int))) := by kernel_rfl
theorem st21_6 {R : Type} (n m : Nat) (K : Ex → St → Option R) (x0 : List (Bool)) (x1 : Int) (x2 : Int) (x3 : List (Int × Int × Int)) (x4 : List (Int)) : loopK (codeK tab ft21 hint21 ord21 b21_rrrrlrll n) (hint21 6) (m + 1) (S21_6 x0 x1 x2 x3 x4) K =
  bif (decide (x1 < x2)) then
  (bif decide (0 ≤ x1) && decide (x1 < (x0.length : Int)) then
    (bif (x0.getD x1.toNat d4) then
      (bif le47 (((x4.length : Int) + (([x1]).length : Int)) * (8 : Nat)) && le63 ((x4.length : Int) + (([x1]).length : Int)) then
        (loopK (codeK tab ft21 hint21 ord21 b21_rrrrlrll n) (hint21 6) m (S21_6 x0 (IntKind.wrap .i64 (x1 + 1)) x2 x3 (x4 ++ [x1])) K)
        else (none))
      else (loopK (codeK tab ft21 hint21 ord21 b21_rrrrlrll n) (hint21 6) m (S21_6 x0 (IntKind.wrap .i64 (x1 + 1)) x2 x3 x4) K))
    else (none))
  else (K (.exit 0) (X21_6_0 x4)) := by kernel_rfl
theorem ex21_6_0 (n : Nat) (x0 : List (Int)) : (Ex.block 0 (sK tab ft21 hint21 ord21 n b21_rrrrr (retK tab Tryz.f21 true [(false, [.l c3])]))) (.exit 0) (X21_6_0 x0) =
  (some x0 : Option (List (Int))) := by kernel_rfl
abbrev ET21_6 : Type := (List (Int))
def L21_6 (n : Nat) : Nat → (List (Bool)) → (Int) → (Int) → (List (Int × Int × Int)) → (List (Int)) → Option ET21_6
  | 0, _, _, _, _, _ => none
  | m + 1, x0, x1, x2, x3, x4 =>
  bif (decide (x1 < x2)) then
  (bif decide (0 ≤ x1) && decide (x1 < (x0.length : Int)) then
    (bif (x0.getD x1.toNat d4) then
      (bif le47 (((x4.length : Int) + (([x1]).length : Int)) * (8 : Nat)) && le63 ((x4.length : Int) + (([x1]).length : Int)) then
        (L21_6 n m x0 (IntKind.wrap .i64 (x1 + 1)) x2 x3 (x4 ++ [x1]))
        else (none))
      else (L21_6 n m x0 (IntKind.wrap .i64 (x1 + 1)) x2 x3 x4))
    else (none))
  else (some (x4))
def DK21_6 {R : Type} (K : Ex → St → Option R) : ET21_6 → Option R := fun z => K (.exit 0) (X21_6_0 z)
theorem lp21_6 {R : Type} (n : Nat) : ∀ (m : Nat) (x0 : List (Bool)) (x1 : Int) (x2 : Int) (x3 : List (Int × Int × Int)) (x4 : List (Int)) (K : Ex → St → Option R), loopK (codeK tab ft21 hint21 ord21 b21_rrrrlrll n) (hint21 6) m (S21_6 x0 x1 x2 x3 x4) K = (L21_6 n m x0 x1 x2 x3 x4).bind (DK21_6 K)
  | 0, x0, x1, x2, x3, x4, K => rfl
  | m + 1, x0, x1, x2, x3, x4, K => by
    refine (st21_6 n m K x0 x1 x2 x3 x4).trans ?_
    rw [L21_6]
    have IH : ∀ (x0 : List (Bool)) (x1 : Int) (x2 : Int) (x3 : List (Int × Int × Int)) (x4 : List (Int)), loopK (codeK tab ft21 hint21 ord21 b21_rrrrlrll n) (hint21 6) m (S21_6 x0 x1 x2 x3 x4) K = (L21_6 n m x0 x1 x2 x3 x4).bind (DK21_6 K) := fun x0 x1 x2 x3 x4 => lp21_6 n m x0 x1 x2 x3 x4 K
    exact (cond_b (cond_b (cond_b (cond_b (IH x0 (IntKind.wrap .i64 (x1 + 1)) x2 x3 (x4 ++ [x1])) rfl) (IH x0 (IntKind.wrap .i64 (x1 + 1)) x2 x3 x4)) rfl) rfl)
def E21_6_0 (n : Nat) (x0 : List (Int)) : Option (List (Int)) :=
  some x0
def C21_6 (n : Nat) : ET21_6 → Option (List (Int)) := fun z => E21_6_0 n z
theorem exq21_6_0 (n : Nat) (x0 : List (Int)) : (some x0 : Option (List (Int))) = E21_6_0 n x0 := by
  unfold E21_6_0
  exact rfl
theorem cq21_6 (n : Nat) : ∀ e, DK21_6 (Ex.block 0 (sK tab ft21 hint21 ord21 n b21_rrrrr (retK tab Tryz.f21 true [(false, [.l c3])]))) e = C21_6 n e := fun z => (ex21_6_0 n z).trans (exq21_6_0 n z)
def G21 (n : Nat) (a0 : Int × (List (Int × Int × Int))) (a1 : Int) : Option (List (Int)) :=
  bif (!(valG a0)) then
  (some ([]))
  else (bif (!(inB a1 0 (IntKind.wrap .i64 (a0.1 - 1)))) then
    (some ([]))
    else ((preach (a0, [a1])).bind fun y2 =>
      (L21_6 n n y2 0 a0.1 a0.2 ([])).bind (C21_6 n)))
theorem g21 (n : Nat) (a0 : Int × (List (Int × Int × Int))) (a1 : Int) : runF tab ft21 hint21 ord21 Tryz.f21 [(true, [.i .i64, .l c176]), (false, [.i .i64])] [(false, [.l c3])] true n (a0, a1) = G21 n a0 a1 := by
  refine (en21 n a0 a1).trans ?_
  unfold G21
  exact (cond_c rfl (cond_c rfl (bind_c fun y2 => ((lp21_6 n n y2 0 a0.1 a0.2 ([]) _).trans (bind_c fun e => cq21_6 n e)))))
def idxT : Int → List Bool → List Int
  | _, [] => []
  | i, b :: r => bif b then i :: idxT (i + 1) r else idxT (i + 1) r
def rnS (g : Gr) (v : Int) : List Int := bif !(valG g) then [] else bif !(inB v 0 (IntKind.wrap .i64 (g.1 - 1))) then [] else idxT 0 (reachS g v)
theorem rounds_length (es : List Ed) : ∀ (k : Nat) (s : List Bool), (rounds es k s).length = s.length
  | 0, s => rfl
  | k + 1, s => by rw [rounds, rounds_length es k, fold_length]
def e21 : FE := ⟨[(true, [.i .i64, .l c176]), (false, [.i .i64])], [(false, [.l c3])], true, false, fun x => some (rnS x.1 x.2)⟩
theorem idLoop (n : Nat) (bs : List Bool) (es : List Ed) (s : Int) (hs : (bs.length : Int) = s) (hs8 : s ≤ 8) : ∀ (m i : Nat) (o : List Int), i ≤ bs.length → o.length ≤ i → bs.length - i < m →
    (L21_6 n m bs (i : Int) s es o).bind (C21_6 n) = some (o ++ idxT i (bs.drop i))
  | 0, i, o, _, _, hm => by omega
  | m + 1, i, o, hi, ho, hm => by
    rw [L21_6, ← hs]
    by_cases hlt : i < bs.length
    · obtain ⟨e1, e2, e3, e4, e5⟩ := at_i d4 hlt (by simp only [maxLen]; omega)
      rw [e1, e2, e3, e4, e5, idxT, ap1 ho (by omega) (by decide)]
      have ih := fun o h => idLoop n bs es s hs hs8 m (i + 1) o (by omega) h (by omega)
      rw [← hs] at ih
      cases ek : bs[i] with
      | false => exact ih o (by omega)
      | true => exact (ih (o ++ [(i : Int)]) (by simp; omega)).trans (by simp)
    · obtain ⟨e1, e2⟩ := out_i hlt
      rw [e1, e2]; simp [idxT, C21_6, E21_6_0]
theorem p21 : ∀ (a0 : Int × (List (Int × Int × Int))) (a1 : Int) y, okP e21.ps (a0, a1) → e21.φ (a0, a1) = some y → ∃ n, G21 n a0 a1 = some y := by
  intro g v y ok h
  obtain rfl : rnS g v = y := Option.some.inj h
  unfold G21 rnS
  cases hv : valG g with
  | false => exact ⟨0, rfl⟩
  | true =>
    obtain ⟨hs1, hs8, hlen, hall⟩ := valG_spec hv
    have hw : IntKind.wrap .i64 (g.1 - 1) = g.1 - 1 := wrap_id (by omega) (by omega)
    rw [hw]
    cases hb : inB v 0 (g.1 - 1) with
    | false => exact ⟨0, rfl⟩
    | true =>
      refine ⟨g.1.toNat + 1, ?_⟩
      have hb' := hb
      unfold inB at hb'
      simp only [Bool.and_eq_true, decide_eq_true_eq] at hb'
      have hp : preach (g, [v]) = some (reachS g v) := by
        unfold preach
        simp only
        rw [hv, decide_eq_true hb'.1, decide_eq_true (show v < g.1 by omega)]
        rfl
      have hl : (reachS g v).length = g.1.toNat := by
        unfold reachS
        rw [rounds_length]; simp
      have h := idLoop (g.1.toNat + 1) (reachS g v) g.2 g.1 (by omega) (by omega) (g.1.toNat + 1) 0 [] (by omega) (by simp) (by omega)
      rw [List.drop_zero, List.nil_append] at h
      rw [hp]
      exact h
theorem r21 : ∀ x y, okP e21.ps x → e21.φ x = some y → ∃ n, runF tab ft21 hint21 ord21 Tryz.f21 e21.ps e21.rs e21.fr n x = some y := fun ⟨a0, a1⟩ y ok h =>
  match p21 _ _ y ok h with | ⟨n, hn⟩ => ⟨n, (g21 n _ _).trans hn⟩
theorem s21 : Sat Tryz.prog 21 e21 := sat_of_run Tryz.func21 (c := bodyOf Tryz.f21) (by kernel_rfl) (ne_of_dec (by kernel_rfl)) mixed tab_ok (by kernel_rfl) (ftOf_cons s55 (ftOf_cons s56 (ftOf_cons s57 ftOf_nil))) (by kernel_rfl) (fun h => (Bool.false_ne_true h).elim) r21
/- 5 loop.example/g00513/spec.HonestReach -/
noncomputable def ft5 : Nat → Option FE := ftOf [(21, e21), (22, e22)]
def hint5 : Nat → Hint := fun _ => {}
def ord5 : Nat → List Nat := fun _ => []
theorem en5 (n : Nat) (a0 : Int × (List (Int × Int × Int)) × (List (Int × List (List (Int)))) × Int × Int × Int × Int × (List (Int × Int × Int × (List (Int × List (Int) × List (Int))) × Int)) × (List (Int × Int × Int)) × Int × (List (Int × (List (Int × Int × Int × (List (Int × List (Int) × List (Int))) × Int)))) × (List (Int × Int × List (Int) × (List (Int × Int × Int × Int × List (List (Int)))) × (List (Int × List (List (Int)))) × Int)) × List (Int) × List (Int) × (List (Int × Int × Int × Int × List (Int) × Int)) × (List (Int × Int × Int)) × Int × Int × Int) : runF tab ft5 hint5 ord5 Tryz.f5 [(true, [.i .i64, .l c176, .l c167, .i .i64, .i .i64, .i .i64, .i .i64, .l c171, .l c176, .i .i64, .l c110, .l c114, .l c3, .l c3, .l c117, .l c176, .i .i64, .i .i64, .i .i64])] [(false, [.l c3])] true n (a0) =
  ((pcut ((a0.1, a0.2.1), a0.2.2.2.2.2.2.2.2.2.2.2.2.1)).bind fun y1 =>
  some (rnS y1 0) : Option (List (Int))) := by kernel_rfl
def G5 (n : Nat) (a0 : Int × (List (Int × Int × Int)) × (List (Int × List (List (Int)))) × Int × Int × Int × Int × (List (Int × Int × Int × (List (Int × List (Int) × List (Int))) × Int)) × (List (Int × Int × Int)) × Int × (List (Int × (List (Int × Int × Int × (List (Int × List (Int) × List (Int))) × Int)))) × (List (Int × Int × List (Int) × (List (Int × Int × Int × Int × List (List (Int)))) × (List (Int × List (List (Int)))) × Int)) × List (Int) × List (Int) × (List (Int × Int × Int × Int × List (Int) × Int)) × (List (Int × Int × Int)) × Int × Int × Int) : Option (List (Int)) :=
  (pcut ((a0.1, a0.2.1), a0.2.2.2.2.2.2.2.2.2.2.2.2.1)).bind fun y2 =>
  some (rnS y2 0)
theorem g5 (n : Nat) (a0 : Int × (List (Int × Int × Int)) × (List (Int × List (List (Int)))) × Int × Int × Int × Int × (List (Int × Int × Int × (List (Int × List (Int) × List (Int))) × Int)) × (List (Int × Int × Int)) × Int × (List (Int × (List (Int × Int × Int × (List (Int × List (Int) × List (Int))) × Int)))) × (List (Int × Int × List (Int) × (List (Int × Int × Int × Int × List (List (Int)))) × (List (Int × List (List (Int)))) × Int)) × List (Int) × List (Int) × (List (Int × Int × Int × Int × List (Int) × Int)) × (List (Int × Int × Int)) × Int × Int × Int) : runF tab ft5 hint5 ord5 Tryz.f5 [(true, [.i .i64, .l c176, .l c167, .i .i64, .i .i64, .i .i64, .i .i64, .l c171, .l c176, .i .i64, .l c110, .l c114, .l c3, .l c3, .l c117, .l c176, .i .i64, .i .i64, .i .i64])] [(false, [.l c3])] true n (a0) = G5 n a0 := by
  refine (en5 n a0).trans ?_
  unfold G5
  exact (bind_c fun y2 => rfl)
def e5 : FE := ⟨[(true, [.i .i64, .l c176, .l c167, .i .i64, .i .i64, .i .i64, .i .i64, .l c171, .l c176, .i .i64, .l c110, .l c114, .l c3, .l c3, .l c117, .l c176, .i .i64, .i .i64, .i .i64])], [(false, [.l c3])], true, false, fun x => G5 0 x⟩
theorem p5 : ∀ (a0 : Int × (List (Int × Int × Int)) × (List (Int × List (List (Int)))) × Int × Int × Int × Int × (List (Int × Int × Int × (List (Int × List (Int) × List (Int))) × Int)) × (List (Int × Int × Int)) × Int × (List (Int × (List (Int × Int × Int × (List (Int × List (Int) × List (Int))) × Int)))) × (List (Int × Int × List (Int) × (List (Int × Int × Int × Int × List (List (Int)))) × (List (Int × List (List (Int)))) × Int)) × List (Int) × List (Int) × (List (Int × Int × Int × Int × List (Int) × Int)) × (List (Int × Int × Int)) × Int × Int × Int) y, okP e5.ps (a0) → e5.φ (a0) = some y → ∃ n, G5 n a0 = some y := fun a0 y ok h => ⟨0, h⟩
theorem r5 : ∀ x y, okP e5.ps x → e5.φ x = some y → ∃ n, runF tab ft5 hint5 ord5 Tryz.f5 e5.ps e5.rs e5.fr n x = some y := fun a0 y ok h =>
  match p5 _ y ok h with | ⟨n, hn⟩ => ⟨n, (g5 n _).trans hn⟩
theorem s5 : Sat Tryz.prog 5 e5 := sat_of_run Tryz.func5 (c := bodyOf Tryz.f5) (by kernel_rfl) (ne_of_dec (by kernel_rfl)) mixed tab_ok (by kernel_rfl) (ftOf_cons s21 (ftOf_cons s22 ftOf_nil)) (by kernel_rfl) (fun h => (Bool.false_ne_true h).elim) r5
end
end Go.Proofs.Ai

set_option linter.unusedVariables false
namespace Go.Proofs.Ai
open Go.RowKit Go.Maps

/-! a set of integers as a map to true -/
def Dm (f : List Int) : DataW Unit := setOf (.lit (.bool true)) (f.map (Lit.int .i64))
theorem Dm_snoc (f : List Int) (x : Int) : Dm (f ++ [x]) = (Dm f).put (.int .i64 x) (.lit (.bool true)) := by
  unfold Dm
  rw [List.map_append]
  exact setOf_snoc _ _ _
theorem Dm_keys (f : List Int) : ∀ x ∈ f.map (Lit.int .i64), WideAt.IsKeyLit x := by
  intro x h
  obtain ⟨y, _, rfl⟩ := List.mem_map.1 h
  trivial
theorem Dm_isMap (f : List Int) : IsMap (Dm f) := (tidy_setOf _ _ (Dm_keys f)).isMap
theorem Dm_has (f : List Int) (x : Int) : has (Dm f) (.int .i64 x) = decide (x ∈ f) := by
  unfold Dm
  rw [has_setOf _ _ _ (Dm_keys f)]
  induction f with
  | nil => rfl
  | cons y r ih =>
    rw [List.map_cons, List.any_cons, ih]
    by_cases e : x = y
    · subst e; simp [Lit.sameKey]
    · have : (Lit.int IntKind.i64 y).sameKey (.int .i64 x) = false := sameKey_ne (by simp; omega)
      rw [this]
      simp [e]
theorem Dm_at (x : Int) : ∀ (f : List Int), (Dm f).atKey (.int .i64 x) (.lit (.bool false)) = .lit (.bool (decide (x ∈ f))) := by
  have key : ∀ (g : List Int), (Dm g.reverse).atKey (.int .i64 x) (.lit (.bool false)) = .lit (.bool (decide (x ∈ g.reverse))) := by
    intro g
    induction g with
    | nil => rfl
    | cons y r ih =>
      rw [List.reverse_cons, Dm_snoc]
      by_cases e : x = y
      · subst e
        rw [atKey_put_same (Dm_isMap _) (show WideAt.IsKeyLit (.int .i64 x) from trivial)]
        simp
      · rw [atKey_put_other (by simp; omega), ih]
        simp [e]
  intro f
  have := key f.reverse
  rwa [List.reverse_reverse] at this
theorem plainElem_bool_inv {P : Program} {e : TypeId} (he : P.underlying e = some .bool) {v : Value} {x : Bool} {ps : List MemPlace} (h : plainElem (H := Unit) P e v = some (.lit (.bool x), ps)) : v = .bool x := by
  unfold plainElem at h
  rw [he] at h
  cases v <;> simp at h
  rw [h.1]
abbrev MapOf (w : World) (b : Nat) (f : List Int) : Prop := w.ownsMap Tryz.prog 3 (plainElem (H := Unit) Tryz.prog 4) b f.length (Dm f)
theorem zero4 (w : World) : (zeroValue 4).run Tryz.prog w = .ok (.bool false) w := by kernel_rfl
theorem key3 : Keyed Tryz.prog 3 := int_keyed Tryz.underlying3
theorem MapOf.look {w : World} {b : Nat} {f : List Int} (h : MapOf w b f) {x : Int} (hx : IntOk .i64 x) : (Instr.lookup 142 (.map (some b)) (.int .i64 x) false).run Tryz.prog w = .ok (.bool (decide (x ∈ f))) w := by
  obtain ⟨v, ps, hrun, hv⟩ := World.ownsMap.lookup h key3 Tryz.underlying142 (zero4 w) (plainElem_bool Tryz.underlying4 false) (keyOf_int_mk Tryz.underlying3 hx)
  rw [Dm_at] at hv
  rw [plainElem_bool_inv Tryz.underlying4 hv] at hrun
  exact hrun
theorem MapOf.perm {w : World} {b : Nat} {f : List Int} (h : MapOf w b f) (hn : f.Nodup) : f.Perm (intKeys (Dm f)) := by
  refine CollectedI.perm (left := fun _ => false) (D0 := Dm f) ⟨hn, fun x => ?_⟩ h key3 Tryz.underlying3 (fun _ => rfl)
  rw [Dm_has]
  simp
end Go.Proofs.Ai
