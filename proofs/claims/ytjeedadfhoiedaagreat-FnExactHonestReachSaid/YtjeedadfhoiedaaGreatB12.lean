/- A part of the proof that the law FnExactHonestReach returns true: contracts of the functions that it calls, or the plain facts behind them; each holds for every input that its premises name. -/
import Derived.Test.YtjeedadfhoiedaaGreatB7
import Derived.KernelRfl
set_option linter.unusedVariables false
namespace Go.Proofs.Ai
open Go.RowKit
/- 11 loop.example/g00513/laws.markIntS -/
def e11 : FE := ⟨[(false, [.l ca3]), (false, [.i .i64])], [(false, [.i .i64])], true, true, gmk [.l ca3]⟩
def ft11 : Nat → Option FE := ftOf []
def hint11 : Nat → Hint := fun
  | 2 => ⟨[0, 1, 5], [], [1], [], [], []⟩
  | _ => {}
def ord11 : Nat → List Nat := fun _ => []
noncomputable def b11_rlrll : Code := Code.l (Code.l (Code.r (Code.l (Code.r (bodyOf Tryz.f11)))))
noncomputable def b11_rr : Code := Code.r (Code.r (bodyOf Tryz.f11))
def S11_2 (x0 : List (Unit)) (x1 : Int) (x2 : Int) : St := ⟨[.d false ca3 x0, .v (.int .i64 x1), .bad, .bad, .bad, .v (.int .i64 x2), .bad, .bad, .bad, .bad, .bad, .bad, .bad, .bad, .bad, .bad, .bad, .bad, .bad], []⟩
def X11_2_0 (x0 : Int) : St := ⟨[.bad, .v (.int .i64 x0), .bad, .bad, .bad, .bad, .bad, .bad, .bad, .bad, .bad, .bad, .bad, .bad, .bad, .bad, .bad, .bad, .bad], []⟩
theorem en11 (n : Nat) (a0 : List (Unit)) (a1 : Int) : runF tabE ft11 hint11 ord11 Tryz.f11 [(false, [.l ca3]), (false, [.i .i64])] [(false, [.i .i64])] true n (a0, a1) =
  (loopK (codeK tabE ft11 hint11 ord11 b11_rlrll n) (hint11 2) n (S11_2 a0 a1 0) (Ex.block 0 (sK tabE ft11 hint11 ord11 n b11_rr (retK tabE Tryz.f11 true [(false, [.i .i64])]))) : Option (Int)) := by kernel_rfl
theorem st11_2 {R : Type} (n m : Nat) (K : Ex → St → Option R) (x0 : List (Unit)) (x1 : Int) (x2 : Int) : loopK (codeK tabE ft11 hint11 ord11 b11_rlrll n) (hint11 2) (m + 1) (S11_2 x0 x1 x2) K =
  bif (decide (x2 < (x0.length : Int))) then
  (bif decide (0 ≤ x2) && decide (x2 < (x0.length : Int)) then
    (loopK (codeK tabE ft11 hint11 ord11 b11_rlrll n) (hint11 2) m (S11_2 x0 (IntKind.wrap .i64 (x1 + 1)) (IntKind.wrap .i64 (x2 + 1))) K)
    else (none))
  else (K (.exit 0) (X11_2_0 x1)) := by kernel_rfl
theorem ex11_2_0 (n : Nat) (x0 : Int) : (Ex.block 0 (sK tabE ft11 hint11 ord11 n b11_rr (retK tabE Tryz.f11 true [(false, [.i .i64])]))) (.exit 0) (X11_2_0 x0) =
  (some x0 : Option (Int)) := by kernel_rfl
def EL11 (x : CT.denL ca3) : Nat := elC ca3 x
theorem r11 : ∀ x y, okP e11.ps x → e11.φ x = some y → ∃ n, runF tabE ft11 hint11 ord11 Tryz.f11 e11.ps e11.rs e11.fr n x = some y := by
  rintro ⟨(a : List (Unit)), (k : Int)⟩ y ok h
  obtain ⟨h0, h1, rfl⟩ := gmk_some (cs := [.l ca3]) h
  have ha : a.length ≤ maxLen := ok.1.1
  refine ⟨a.length + 1, (en11 _ a k).trans ?_⟩
  refine mkLoop0 (cs := ca3) da3 (fun m x k i => loopK (codeK tabE ft11 hint11 ord11 b11_rlrll (a.length + 1)) (hint11 2) m (S11_2 x k i) (Ex.block 0 (sK tabE ft11 hint11 ord11 (a.length + 1) b11_rr (retK tabE Tryz.f11 true [(false, [.i .i64])])))) (fun k => (Ex.block 0 (sK tabE ft11 hint11 ord11 (a.length + 1) b11_rr (retK tabE Tryz.f11 true [(false, [.i .i64])]))) (.exit 0) (X11_2_0 k)) (fun k => ex11_2_0 _ k) (fun m (x0 : List (Unit)) x1 x2 hi => ?_) (fun m (x0 : List (Unit)) x1 x2 hi hx hlen hk hb => ?_) a ha k h0 h1
  · exact (st11_2 _ m _ x0 x1 x2).trans (bif_false (decide_eq_false hi) rfl)
  · replace hb : x1 + ((1 : Nat) : Int) ≤ 4611686018427387904 := hb
    exact (st11_2 _ m _ x0 x1 x2).trans (bif_true (decide_eq_true hx) (bif_true (in2 hi hx) (show loopK (codeK tabE ft11 hint11 ord11 b11_rlrll (a.length + 1)) (hint11 2) m (S11_2 x0 (IntKind.wrap .i64 (x1 + 1)) (IntKind.wrap .i64 (x2 + 1))) (Ex.block 0 (sK tabE ft11 hint11 ord11 (a.length + 1) b11_rr (retK tabE Tryz.f11 true [(false, [.i .i64])]))) = loopK (codeK tabE ft11 hint11 ord11 b11_rlrll (a.length + 1)) (hint11 2) m (S11_2 x0 (x1 + ((1 : Nat) : Int)) (x2 + 1)) (Ex.block 0 (sK tabE ft11 hint11 ord11 (a.length + 1) b11_rr (retK tabE Tryz.f11 true [(false, [.i .i64])]))) from by
    rw [show (IntKind.wrap .i64 (x1 + 1)) = x1 + 1 from by first | rfl | (simp (disch := omega) only [wrap_succ]), wrap_succ (i := x2) (by omega) (by omega)]
    all_goals rw [show x1 + 1 = x1 + ((1 : Nat) : Int) from by omega])))
theorem s11 : Sat Tryz.prog 11 e11 := sat_of_run Tryz.func11 (c := bodyOf Tryz.f11) (by kernel_rfl) (ne_of_dec (by kernel_rfl)) mixed tabE_ok (by kernel_rfl) ftOf_nil (by kernel_rfl) (fun _ => by kernel_rfl) r11
/- 86 loop.example/g00513/laws.markEdgeS -/
def e86 : FE := ⟨[(false, [.l ca176]), (false, [.i .i64])], [(false, [.i .i64])], true, true, gmk [.l ca176]⟩
def ft86 : Nat → Option FE := ftOf []
def hint86 : Nat → Hint := fun
  | 2 => ⟨[0, 1, 5], [], [1], [], [], []⟩
  | _ => {}
def ord86 : Nat → List Nat := fun _ => []
noncomputable def b86_rlrll : Code := Code.l (Code.l (Code.r (Code.l (Code.r (bodyOf Tryz.f86)))))
noncomputable def b86_rr : Code := Code.r (Code.r (bodyOf Tryz.f86))
def S86_2 (x0 : List (Unit × Unit × Unit)) (x1 : Int) (x2 : Int) : St := ⟨[.d false ca176 x0, .v (.int .i64 x1), .bad, .bad, .bad, .v (.int .i64 x2), .bad, .bad, .bad, .bad, .bad, .bad, .bad, .bad, .bad, .bad, .bad, .bad, .bad, .bad, .bad, .bad, .bad, .bad, .bad, .bad, .bad, .bad, .bad, .bad, .bad, .bad, .bad, .bad], []⟩
def X86_2_0 (x0 : Int) : St := ⟨[.bad, .v (.int .i64 x0), .bad, .bad, .bad, .bad, .bad, .bad, .bad, .bad, .bad, .bad, .bad, .bad, .bad, .bad, .bad, .bad, .bad, .bad, .bad, .bad, .bad, .bad, .bad, .bad, .bad, .bad, .bad, .bad, .bad, .bad, .bad, .bad], []⟩
theorem en86 (n : Nat) (a0 : (List (Unit × Unit × Unit))) (a1 : Int) : runF tabE ft86 hint86 ord86 Tryz.f86 [(false, [.l ca176]), (false, [.i .i64])] [(false, [.i .i64])] true n (a0, a1) =
  (loopK (codeK tabE ft86 hint86 ord86 b86_rlrll n) (hint86 2) n (S86_2 a0 a1 0) (Ex.block 0 (sK tabE ft86 hint86 ord86 n b86_rr (retK tabE Tryz.f86 true [(false, [.i .i64])]))) : Option (Int)) := by kernel_rfl
theorem st86_2 {R : Type} (n m : Nat) (K : Ex → St → Option R) (x0 : List (Unit × Unit × Unit)) (x1 : Int) (x2 : Int) : loopK (codeK tabE ft86 hint86 ord86 b86_rlrll n) (hint86 2) (m + 1) (S86_2 x0 x1 x2) K =
  bif (decide (x2 < (x0.length : Int))) then
  (bif decide (0 ≤ x2) && decide (x2 < (x0.length : Int)) then
    (bif decide (0 ≤ x2) && decide (x2 < (x0.length : Int)) then
      (bif decide (0 ≤ x2) && decide (x2 < (x0.length : Int)) then
        (loopK (codeK tabE ft86 hint86 ord86 b86_rlrll n) (hint86 2) m (S86_2 x0 (IntKind.wrap .i64 ((IntKind.wrap .i64 ((IntKind.wrap .i64 (x1 + 1)) + 1)) + 1)) (IntKind.wrap .i64 (x2 + 1))) K)
        else (none))
      else (none))
    else (none))
  else (K (.exit 0) (X86_2_0 x1)) := by kernel_rfl
theorem ex86_2_0 (n : Nat) (x0 : Int) : (Ex.block 0 (sK tabE ft86 hint86 ord86 n b86_rr (retK tabE Tryz.f86 true [(false, [.i .i64])]))) (.exit 0) (X86_2_0 x0) =
  (some x0 : Option (Int)) := by kernel_rfl
def EL86 (x : CT.denL ca176) : Nat := elC ca176 x
theorem r86 : ∀ x y, okP e86.ps x → e86.φ x = some y → ∃ n, runF tabE ft86 hint86 ord86 Tryz.f86 e86.ps e86.rs e86.fr n x = some y := by
  rintro ⟨(a : (List (Unit × Unit × Unit))), (k : Int)⟩ y ok h
  obtain ⟨h0, h1, rfl⟩ := gmk_some (cs := [.l ca176]) h
  have ha : a.length ≤ maxLen := ok.1.1
  refine ⟨a.length + 1, (en86 _ a k).trans ?_⟩
  refine mkLoop0 (cs := ca176) da176 (fun m x k i => loopK (codeK tabE ft86 hint86 ord86 b86_rlrll (a.length + 1)) (hint86 2) m (S86_2 x k i) (Ex.block 0 (sK tabE ft86 hint86 ord86 (a.length + 1) b86_rr (retK tabE Tryz.f86 true [(false, [.i .i64])])))) (fun k => (Ex.block 0 (sK tabE ft86 hint86 ord86 (a.length + 1) b86_rr (retK tabE Tryz.f86 true [(false, [.i .i64])]))) (.exit 0) (X86_2_0 k)) (fun k => ex86_2_0 _ k) (fun m (x0 : List (Unit × Unit × Unit)) x1 x2 hi => ?_) (fun m (x0 : List (Unit × Unit × Unit)) x1 x2 hi hx hlen hk hb => ?_) a ha k h0 h1
  · exact (st86_2 _ m _ x0 x1 x2).trans (bif_false (decide_eq_false hi) rfl)
  · replace hb : x1 + (((1 + (1 + 1)) : Nat) : Int) ≤ 4611686018427387904 := hb
    exact (st86_2 _ m _ x0 x1 x2).trans (bif_true (decide_eq_true hx) (bif_true (in2 hi hx) (bif_true (in2 hi hx) (bif_true (in2 hi hx) (show loopK (codeK tabE ft86 hint86 ord86 b86_rlrll (a.length + 1)) (hint86 2) m (S86_2 x0 (IntKind.wrap .i64 ((IntKind.wrap .i64 ((IntKind.wrap .i64 (x1 + 1)) + 1)) + 1)) (IntKind.wrap .i64 (x2 + 1))) (Ex.block 0 (sK tabE ft86 hint86 ord86 (a.length + 1) b86_rr (retK tabE Tryz.f86 true [(false, [.i .i64])]))) = loopK (codeK tabE ft86 hint86 ord86 b86_rlrll (a.length + 1)) (hint86 2) m (S86_2 x0 (x1 + (((1 + (1 + 1)) : Nat) : Int)) (x2 + 1)) (Ex.block 0 (sK tabE ft86 hint86 ord86 (a.length + 1) b86_rr (retK tabE Tryz.f86 true [(false, [.i .i64])]))) from by
    rw [show (IntKind.wrap .i64 ((IntKind.wrap .i64 ((IntKind.wrap .i64 (x1 + 1)) + 1)) + 1)) = x1 + 1 + 1 + 1 from by first | rfl | (simp (disch := omega) only [wrap_succ]), wrap_succ (i := x2) (by omega) (by omega)]
    all_goals rw [show x1 + 1 + 1 + 1 = x1 + (((1 + (1 + 1)) : Nat) : Int) from by omega])))))
theorem s86 : Sat Tryz.prog 86 e86 := sat_of_run Tryz.func86 (c := bodyOf Tryz.f86) (by kernel_rfl) (ne_of_dec (by kernel_rfl)) mixed tabE_ok (by kernel_rfl) ftOf_nil (by kernel_rfl) (fun _ => by kernel_rfl) r86
/- 40 loop.example/g00513/laws.markGraph -/
def e40 : FE := ⟨[(true, [.any .i64, .l ca176]), (false, [.i .i64])], [(false, [.i .i64])], true, true, gmk [.any .i64, .l ca176]⟩
noncomputable def ft40 : Nat → Option FE := ftOf [(86, e86)]
def hint40 : Nat → Hint := fun _ => {}
def ord40 : Nat → List Nat := fun _ => []
theorem en40 (n : Nat) (a0 : Unit × (List (Unit × Unit × Unit))) (a1 : Int) : runF tabE ft40 hint40 ord40 Tryz.f40 [(true, [.any .i64, .l ca176]), (false, [.i .i64])] [(false, [.i .i64])] true n (a0, a1) =
  ((gmk [.l ca176] (a0.2, a1)).bind fun y1 =>
  some y1 : Option (Int)) := by kernel_rfl
theorem r40 : ∀ x y, okP e40.ps x → e40.φ x = some y → ∃ n, runF tabE ft40 hint40 ord40 Tryz.f40 e40.ps e40.rs e40.fr n x = some y := by
  rintro ⟨(a : Unit × (List (Unit × Unit × Unit))), (k : Int)⟩ y ok h
  obtain ⟨h0, h1, rfl⟩ := gmk_some (cs := [.any .i64, .l ca176]) h
  replace h1 : k + ((cntS [.l ca176] a.2 : Nat) : Int) ≤ 4611686018427387904 := h1
  exact ⟨0, (en40 0 a k).trans (gmkB (cs := [.l ca176]) (c := cntS [.l ca176] a.2) (kk := k) rfl (by first | rfl | simp (disch := omega) only [wrap_succ]) (by omega) (by omega) (congrArg some (show k + ((cntS [.l ca176] a.2 : Nat) : Int) = k + ((cntS [.l ca176] a.2 : Nat) : Int) from by omega)))⟩
theorem s40 : Sat Tryz.prog 40 e40 := sat_of_run Tryz.func40 (c := bodyOf Tryz.f40) (by kernel_rfl) (ne_of_dec (by kernel_rfl)) mixed tabE_ok (by kernel_rfl) (ftOf_cons s86 ftOf_nil) (by kernel_rfl) (fun _ => by kernel_rfl) r40
/- 114 loop.example/g00513/laws.markIntSS -/
def e114 : FE := ⟨[(false, [.l ca36]), (false, [.i .i64])], [(false, [.i .i64])], true, true, gmk [.l ca36]⟩
noncomputable def ft114 : Nat → Option FE := ftOf [(11, e11)]
def hint114 : Nat → Hint := fun
  | 2 => ⟨[0, 1, 5], [], [1], [], [], []⟩
  | _ => {}
def ord114 : Nat → List Nat := fun _ => []
noncomputable def b114_rlrll : Code := Code.l (Code.l (Code.r (Code.l (Code.r (bodyOf Tryz.f114)))))
noncomputable def b114_rr : Code := Code.r (Code.r (bodyOf Tryz.f114))
def S114_2 (x0 : List (List (Unit))) (x1 : Int) (x2 : Int) : St := ⟨[.d false ca36 x0, .v (.int .i64 x1), .bad, .bad, .bad, .v (.int .i64 x2), .bad, .bad, .bad, .bad, .bad, .bad, .bad, .bad, .bad, .bad, .bad, .bad, .bad], []⟩
def X114_2_0 (x0 : Int) : St := ⟨[.bad, .v (.int .i64 x0), .bad, .bad, .bad, .bad, .bad, .bad, .bad, .bad, .bad, .bad, .bad, .bad, .bad, .bad, .bad, .bad, .bad], []⟩
theorem en114 (n : Nat) (a0 : List (List (Unit))) (a1 : Int) : runF tabE ft114 hint114 ord114 Tryz.f114 [(false, [.l ca36]), (false, [.i .i64])] [(false, [.i .i64])] true n (a0, a1) =
  (loopK (codeK tabE ft114 hint114 ord114 b114_rlrll n) (hint114 2) n (S114_2 a0 a1 0) (Ex.block 0 (sK tabE ft114 hint114 ord114 n b114_rr (retK tabE Tryz.f114 true [(false, [.i .i64])]))) : Option (Int)) := by kernel_rfl
theorem st114_2 {R : Type} (n m : Nat) (K : Ex → St → Option R) (x0 : List (List (Unit))) (x1 : Int) (x2 : Int) : loopK (codeK tabE ft114 hint114 ord114 b114_rlrll n) (hint114 2) (m + 1) (S114_2 x0 x1 x2) K =
  bif (decide (x2 < (x0.length : Int))) then
  (bif decide (0 ≤ x2) && decide (x2 < (x0.length : Int)) then
    ((gmk [.l ca3] ((x0.getD x2.toNat da36), x1)).bind fun y2 =>
      loopK (codeK tabE ft114 hint114 ord114 b114_rlrll n) (hint114 2) m (S114_2 x0 y2 (IntKind.wrap .i64 (x2 + 1))) K)
    else (none))
  else (K (.exit 0) (X114_2_0 x1)) := by kernel_rfl
theorem ex114_2_0 (n : Nat) (x0 : Int) : (Ex.block 0 (sK tabE ft114 hint114 ord114 n b114_rr (retK tabE Tryz.f114 true [(false, [.i .i64])]))) (.exit 0) (X114_2_0 x0) =
  (some x0 : Option (Int)) := by kernel_rfl
def EL114 (x : CT.denL ca36) : Nat := elC ca36 x
theorem r114 : ∀ x y, okP e114.ps x → e114.φ x = some y → ∃ n, runF tabE ft114 hint114 ord114 Tryz.f114 e114.ps e114.rs e114.fr n x = some y := by
  rintro ⟨(a : List (List (Unit))), (k : Int)⟩ y ok h
  obtain ⟨h0, h1, rfl⟩ := gmk_some (cs := [.l ca36]) h
  have ha : a.length ≤ maxLen := ok.1.1
  refine ⟨a.length + 1, (en114 _ a k).trans ?_⟩
  refine mkLoop0 (cs := ca36) da36 (fun m x k i => loopK (codeK tabE ft114 hint114 ord114 b114_rlrll (a.length + 1)) (hint114 2) m (S114_2 x k i) (Ex.block 0 (sK tabE ft114 hint114 ord114 (a.length + 1) b114_rr (retK tabE Tryz.f114 true [(false, [.i .i64])])))) (fun k => (Ex.block 0 (sK tabE ft114 hint114 ord114 (a.length + 1) b114_rr (retK tabE Tryz.f114 true [(false, [.i .i64])]))) (.exit 0) (X114_2_0 k)) (fun k => ex114_2_0 _ k) (fun m (x0 : List (List (Unit))) x1 x2 hi => ?_) (fun m (x0 : List (List (Unit))) x1 x2 hi hx hlen hk hb => ?_) a ha k h0 h1
  · exact (st114_2 _ m _ x0 x1 x2).trans (bif_false (decide_eq_false hi) rfl)
  · replace hb : x1 + ((cntS [.l ca3] (x0.getD x2.toNat da36) : Nat) : Int) ≤ 4611686018427387904 := hb
    exact (st114_2 _ m _ x0 x1 x2).trans (bif_true (decide_eq_true hx) (bif_true (in2 hi hx) (gmkB (cs := [.l ca3]) (c := cntS [.l ca3] (x0.getD x2.toNat da36)) (kk := x1) rfl (by first | rfl | simp (disch := omega) only [wrap_succ]) (by omega) (by omega) (show loopK (codeK tabE ft114 hint114 ord114 b114_rlrll (a.length + 1)) (hint114 2) m (S114_2 x0 (x1 + ((cntS [.l ca3] (x0.getD x2.toNat da36) : Nat) : Int)) (IntKind.wrap .i64 (x2 + 1))) (Ex.block 0 (sK tabE ft114 hint114 ord114 (a.length + 1) b114_rr (retK tabE Tryz.f114 true [(false, [.i .i64])]))) = loopK (codeK tabE ft114 hint114 ord114 b114_rlrll (a.length + 1)) (hint114 2) m (S114_2 x0 (x1 + ((cntS [.l ca3] (x0.getD x2.toNat da36) : Nat) : Int)) (x2 + 1)) (Ex.block 0 (sK tabE ft114 hint114 ord114 (a.length + 1) b114_rr (retK tabE Tryz.f114 true [(false, [.i .i64])]))) from by
    rw [show (x1 + ((cntS [.l ca3] (x0.getD x2.toNat da36) : Nat) : Int)) = x1 + ((cntS [.l ca3] (x0.getD x2.toNat da36) : Nat) : Int) from by first | rfl | (simp (disch := omega) only [wrap_succ]), wrap_succ (i := x2) (by omega) (by omega)]
    all_goals rw [show x1 + ((cntS [.l ca3] (x0.getD x2.toNat da36) : Nat) : Int) = x1 + ((cntS [.l ca3] (x0.getD x2.toNat da36) : Nat) : Int) from by omega]))))
theorem s114 : Sat Tryz.prog 114 e114 := sat_of_run Tryz.func114 (c := bodyOf Tryz.f114) (by kernel_rfl) (ne_of_dec (by kernel_rfl)) mixed tabE_ok (by kernel_rfl) (ftOf_cons s11 ftOf_nil) (by kernel_rfl) (fun _ => by kernel_rfl) r114
/- 87 loop.example/g00513/laws.markGenerationS -/
def e87 : FE := ⟨[(false, [.l ca167]), (false, [.i .i64])], [(false, [.i .i64])], true, true, gmk [.l ca167]⟩
noncomputable def ft87 : Nat → Option FE := ftOf [(114, e114)]
def hint87 : Nat → Hint := fun
  | 2 => ⟨[0, 1, 5], [], [1], [], [], []⟩
  | _ => {}
def ord87 : Nat → List Nat := fun _ => []
noncomputable def b87_rlrll : Code := Code.l (Code.l (Code.r (Code.l (Code.r (bodyOf Tryz.f87)))))
noncomputable def b87_rr : Code := Code.r (Code.r (bodyOf Tryz.f87))
def S87_2 (x0 : List (Unit × List (List (Unit)))) (x1 : Int) (x2 : Int) : St := ⟨[.d false ca167 x0, .v (.int .i64 x1), .bad, .bad, .bad, .v (.int .i64 x2), .bad, .bad, .bad, .bad, .bad, .bad, .bad, .bad, .bad, .bad, .bad, .bad, .bad, .bad, .bad, .bad, .bad, .bad, .bad, .bad, .bad], []⟩
def X87_2_0 (x0 : Int) : St := ⟨[.bad, .v (.int .i64 x0), .bad, .bad, .bad, .bad, .bad, .bad, .bad, .bad, .bad, .bad, .bad, .bad, .bad, .bad, .bad, .bad, .bad, .bad, .bad, .bad, .bad, .bad, .bad, .bad, .bad], []⟩
theorem en87 (n : Nat) (a0 : (List (Unit × List (List (Unit))))) (a1 : Int) : runF tabE ft87 hint87 ord87 Tryz.f87 [(false, [.l ca167]), (false, [.i .i64])] [(false, [.i .i64])] true n (a0, a1) =
  (loopK (codeK tabE ft87 hint87 ord87 b87_rlrll n) (hint87 2) n (S87_2 a0 a1 0) (Ex.block 0 (sK tabE ft87 hint87 ord87 n b87_rr (retK tabE Tryz.f87 true [(false, [.i .i64])]))) : Option (Int)) := by kernel_rfl
theorem st87_2 {R : Type} (n m : Nat) (K : Ex → St → Option R) (x0 : List (Unit × List (List (Unit)))) (x1 : Int) (x2 : Int) : loopK (codeK tabE ft87 hint87 ord87 b87_rlrll n) (hint87 2) (m + 1) (S87_2 x0 x1 x2) K =
  bif (decide (x2 < (x0.length : Int))) then
  (bif decide (0 ≤ x2) && decide (x2 < (x0.length : Int)) then
    (bif decide (0 ≤ x2) && decide (x2 < (x0.length : Int)) then
      ((gmk [.l ca36] ((x0.getD x2.toNat da167).2, (IntKind.wrap .i64 (x1 + 1)))).bind fun y2 =>
        loopK (codeK tabE ft87 hint87 ord87 b87_rlrll n) (hint87 2) m (S87_2 x0 y2 (IntKind.wrap .i64 (x2 + 1))) K)
      else (none))
    else (none))
  else (K (.exit 0) (X87_2_0 x1)) := by kernel_rfl
theorem ex87_2_0 (n : Nat) (x0 : Int) : (Ex.block 0 (sK tabE ft87 hint87 ord87 n b87_rr (retK tabE Tryz.f87 true [(false, [.i .i64])]))) (.exit 0) (X87_2_0 x0) =
  (some x0 : Option (Int)) := by kernel_rfl
def EL87 (x : CT.denL ca167) : Nat := elC ca167 x
theorem r87 : ∀ x y, okP e87.ps x → e87.φ x = some y → ∃ n, runF tabE ft87 hint87 ord87 Tryz.f87 e87.ps e87.rs e87.fr n x = some y := by
  rintro ⟨(a : (List (Unit × List (List (Unit))))), (k : Int)⟩ y ok h
  obtain ⟨h0, h1, rfl⟩ := gmk_some (cs := [.l ca167]) h
  have ha : a.length ≤ maxLen := ok.1.1
  refine ⟨a.length + 1, (en87 _ a k).trans ?_⟩
  refine mkLoop0 (cs := ca167) da167 (fun m x k i => loopK (codeK tabE ft87 hint87 ord87 b87_rlrll (a.length + 1)) (hint87 2) m (S87_2 x k i) (Ex.block 0 (sK tabE ft87 hint87 ord87 (a.length + 1) b87_rr (retK tabE Tryz.f87 true [(false, [.i .i64])])))) (fun k => (Ex.block 0 (sK tabE ft87 hint87 ord87 (a.length + 1) b87_rr (retK tabE Tryz.f87 true [(false, [.i .i64])]))) (.exit 0) (X87_2_0 k)) (fun k => ex87_2_0 _ k) (fun m (x0 : List (Unit × List (List (Unit)))) x1 x2 hi => ?_) (fun m (x0 : List (Unit × List (List (Unit)))) x1 x2 hi hx hlen hk hb => ?_) a ha k h0 h1
  · exact (st87_2 _ m _ x0 x1 x2).trans (bif_false (decide_eq_false hi) rfl)
  · replace hb : x1 + (((1 + cntS [.l ca36] ((x0.getD x2.toNat da167).2)) : Nat) : Int) ≤ 4611686018427387904 := hb
    exact (st87_2 _ m _ x0 x1 x2).trans (bif_true (decide_eq_true hx) (bif_true (in2 hi hx) (bif_true (in2 hi hx) (gmkB (cs := [.l ca36]) (c := cntS [.l ca36] ((x0.getD x2.toNat da167).2)) (kk := x1 + 1) rfl (by first | rfl | simp (disch := omega) only [wrap_succ]) (by omega) (by omega) (show loopK (codeK tabE ft87 hint87 ord87 b87_rlrll (a.length + 1)) (hint87 2) m (S87_2 x0 (x1 + 1 + ((cntS [.l ca36] ((x0.getD x2.toNat da167).2) : Nat) : Int)) (IntKind.wrap .i64 (x2 + 1))) (Ex.block 0 (sK tabE ft87 hint87 ord87 (a.length + 1) b87_rr (retK tabE Tryz.f87 true [(false, [.i .i64])]))) = loopK (codeK tabE ft87 hint87 ord87 b87_rlrll (a.length + 1)) (hint87 2) m (S87_2 x0 (x1 + (((1 + cntS [.l ca36] ((x0.getD x2.toNat da167).2)) : Nat) : Int)) (x2 + 1)) (Ex.block 0 (sK tabE ft87 hint87 ord87 (a.length + 1) b87_rr (retK tabE Tryz.f87 true [(false, [.i .i64])]))) from by
    rw [show (x1 + 1 + ((cntS [.l ca36] ((x0.getD x2.toNat da167).2) : Nat) : Int)) = x1 + 1 + ((cntS [.l ca36] ((x0.getD x2.toNat da167).2) : Nat) : Int) from by first | rfl | (simp (disch := omega) only [wrap_succ]), wrap_succ (i := x2) (by omega) (by omega)]
    all_goals rw [show x1 + 1 + ((cntS [.l ca36] ((x0.getD x2.toNat da167).2) : Nat) : Int) = x1 + (((1 + cntS [.l ca36] ((x0.getD x2.toNat da167).2)) : Nat) : Int) from by omega])))))
theorem s87 : Sat Tryz.prog 87 e87 := sat_of_run Tryz.func87 (c := bodyOf Tryz.f87) (by kernel_rfl) (ne_of_dec (by kernel_rfl)) mixed tabE_ok (by kernel_rfl) (ftOf_cons s114 ftOf_nil) (by kernel_rfl) (fun _ => by kernel_rfl) r87
/- 115 loop.example/g00513/laws.markCodedPacketS -/
def e115 : FE := ⟨[(false, [.l ca228]), (false, [.i .i64])], [(false, [.i .i64])], true, true, gmk [.l ca228]⟩
noncomputable def ft115 : Nat → Option FE := ftOf [(11, e11)]
def hint115 : Nat → Hint := fun
  | 2 => ⟨[0, 1, 5], [], [1], [], [], []⟩
  | _ => {}
def ord115 : Nat → List Nat := fun _ => []
noncomputable def b115_rlrll : Code := Code.l (Code.l (Code.r (Code.l (Code.r (bodyOf Tryz.f115)))))
noncomputable def b115_rr : Code := Code.r (Code.r (bodyOf Tryz.f115))
def S115_2 (x0 : List (Unit × List (Unit) × List (Unit))) (x1 : Int) (x2 : Int) : St := ⟨[.d false ca228 x0, .v (.int .i64 x1), .bad, .bad, .bad, .v (.int .i64 x2), .bad, .bad, .bad, .bad, .bad, .bad, .bad, .bad, .bad, .bad, .bad, .bad, .bad, .bad, .bad, .bad, .bad, .bad, .bad, .bad, .bad, .bad, .bad, .bad, .bad, .bad, .bad, .bad], []⟩
def X115_2_0 (x0 : Int) : St := ⟨[.bad, .v (.int .i64 x0), .bad, .bad, .bad, .bad, .bad, .bad, .bad, .bad, .bad, .bad, .bad, .bad, .bad, .bad, .bad, .bad, .bad, .bad, .bad, .bad, .bad, .bad, .bad, .bad, .bad, .bad, .bad, .bad, .bad, .bad, .bad, .bad], []⟩
theorem en115 (n : Nat) (a0 : (List (Unit × List (Unit) × List (Unit)))) (a1 : Int) : runF tabE ft115 hint115 ord115 Tryz.f115 [(false, [.l ca228]), (false, [.i .i64])] [(false, [.i .i64])] true n (a0, a1) =
  (loopK (codeK tabE ft115 hint115 ord115 b115_rlrll n) (hint115 2) n (S115_2 a0 a1 0) (Ex.block 0 (sK tabE ft115 hint115 ord115 n b115_rr (retK tabE Tryz.f115 true [(false, [.i .i64])]))) : Option (Int)) := by kernel_rfl
theorem st115_2 {R : Type} (n m : Nat) (K : Ex → St → Option R) (x0 : List (Unit × List (Unit) × List (Unit))) (x1 : Int) (x2 : Int) : loopK (codeK tabE ft115 hint115 ord115 b115_rlrll n) (hint115 2) (m + 1) (S115_2 x0 x1 x2) K =
  bif (decide (x2 < (x0.length : Int))) then
  (bif decide (0 ≤ x2) && decide (x2 < (x0.length : Int)) then
    (bif decide (0 ≤ x2) && decide (x2 < (x0.length : Int)) then
      ((gmk [.l ca3] (((x0.getD x2.toNat da228).2).1, (IntKind.wrap .i64 (x1 + 1)))).bind fun y3 =>
        bif decide (0 ≤ x2) && decide (x2 < (x0.length : Int)) then
        ((gmk [.l ca3] ((x0.getD x2.toNat da228).2.2, y3)).bind fun y4 =>
          loopK (codeK tabE ft115 hint115 ord115 b115_rlrll n) (hint115 2) m (S115_2 x0 y4 (IntKind.wrap .i64 (x2 + 1))) K)
        else (none))
      else (none))
    else (none))
  else (K (.exit 0) (X115_2_0 x1)) := by kernel_rfl
theorem ex115_2_0 (n : Nat) (x0 : Int) : (Ex.block 0 (sK tabE ft115 hint115 ord115 n b115_rr (retK tabE Tryz.f115 true [(false, [.i .i64])]))) (.exit 0) (X115_2_0 x0) =
  (some x0 : Option (Int)) := by kernel_rfl
def EL115 (x : CT.denL ca228) : Nat := elC ca228 x
theorem r115 : ∀ x y, okP e115.ps x → e115.φ x = some y → ∃ n, runF tabE ft115 hint115 ord115 Tryz.f115 e115.ps e115.rs e115.fr n x = some y := by
  rintro ⟨(a : (List (Unit × List (Unit) × List (Unit)))), (k : Int)⟩ y ok h
  obtain ⟨h0, h1, rfl⟩ := gmk_some (cs := [.l ca228]) h
  have ha : a.length ≤ maxLen := ok.1.1
  refine ⟨a.length + 1, (en115 _ a k).trans ?_⟩
  refine mkLoop0 (cs := ca228) da228 (fun m x k i => loopK (codeK tabE ft115 hint115 ord115 b115_rlrll (a.length + 1)) (hint115 2) m (S115_2 x k i) (Ex.block 0 (sK tabE ft115 hint115 ord115 (a.length + 1) b115_rr (retK tabE Tryz.f115 true [(false, [.i .i64])])))) (fun k => (Ex.block 0 (sK tabE ft115 hint115 ord115 (a.length + 1) b115_rr (retK tabE Tryz.f115 true [(false, [.i .i64])]))) (.exit 0) (X115_2_0 k)) (fun k => ex115_2_0 _ k) (fun m (x0 : List (Unit × List (Unit) × List (Unit))) x1 x2 hi => ?_) (fun m (x0 : List (Unit × List (Unit) × List (Unit))) x1 x2 hi hx hlen hk hb => ?_) a ha k h0 h1
  · exact (st115_2 _ m _ x0 x1 x2).trans (bif_false (decide_eq_false hi) rfl)
  · replace hb : x1 + (((1 + (cntS [.l ca3] ((x0.getD x2.toNat da228).2.1) + cntS [.l ca3] ((x0.getD x2.toNat da228).2.2))) : Nat) : Int) ≤ 4611686018427387904 := hb
    exact (st115_2 _ m _ x0 x1 x2).trans (bif_true (decide_eq_true hx) (bif_true (in2 hi hx) (bif_true (in2 hi hx) (gmkB (cs := [.l ca3]) (c := cntS [.l ca3] (((x0.getD x2.toNat da228).2).1)) (kk := x1 + 1) rfl (by first | rfl | simp (disch := omega) only [wrap_succ]) (by omega) (by omega) (bif_true (in2 hi hx) (gmkB (cs := [.l ca3]) (c := cntS [.l ca3] ((x0.getD x2.toNat da228).2.2)) (kk := x1 + 1 + ((cntS [.l ca3] (((x0.getD x2.toNat da228).2).1) : Nat) : Int)) rfl (by first | rfl | simp (disch := omega) only [wrap_succ]) (by omega) (by omega) (show loopK (codeK tabE ft115 hint115 ord115 b115_rlrll (a.length + 1)) (hint115 2) m (S115_2 x0 (x1 + 1 + ((cntS [.l ca3] (((x0.getD x2.toNat da228).2).1) : Nat) : Int) + ((cntS [.l ca3] ((x0.getD x2.toNat da228).2.2) : Nat) : Int)) (IntKind.wrap .i64 (x2 + 1))) (Ex.block 0 (sK tabE ft115 hint115 ord115 (a.length + 1) b115_rr (retK tabE Tryz.f115 true [(false, [.i .i64])]))) = loopK (codeK tabE ft115 hint115 ord115 b115_rlrll (a.length + 1)) (hint115 2) m (S115_2 x0 (x1 + (((1 + (cntS [.l ca3] ((x0.getD x2.toNat da228).2.1) + cntS [.l ca3] ((x0.getD x2.toNat da228).2.2))) : Nat) : Int)) (x2 + 1)) (Ex.block 0 (sK tabE ft115 hint115 ord115 (a.length + 1) b115_rr (retK tabE Tryz.f115 true [(false, [.i .i64])]))) from by
    rw [show (x1 + 1 + ((cntS [.l ca3] (((x0.getD x2.toNat da228).2).1) : Nat) : Int) + ((cntS [.l ca3] ((x0.getD x2.toNat da228).2.2) : Nat) : Int)) = x1 + 1 + ((cntS [.l ca3] (((x0.getD x2.toNat da228).2).1) : Nat) : Int) + ((cntS [.l ca3] ((x0.getD x2.toNat da228).2.2) : Nat) : Int) from by first | rfl | (simp (disch := omega) only [wrap_succ]), wrap_succ (i := x2) (by omega) (by omega)]
    all_goals rw [show x1 + 1 + ((cntS [.l ca3] (((x0.getD x2.toNat da228).2).1) : Nat) : Int) + ((cntS [.l ca3] ((x0.getD x2.toNat da228).2.2) : Nat) : Int) = x1 + (((1 + (cntS [.l ca3] ((x0.getD x2.toNat da228).2.1) + cntS [.l ca3] ((x0.getD x2.toNat da228).2.2))) : Nat) : Int) from by omega])))))))
theorem s115 : Sat Tryz.prog 115 e115 := sat_of_run Tryz.func115 (c := bodyOf Tryz.f115) (by kernel_rfl) (ne_of_dec (by kernel_rfl)) mixed tabE_ok (by kernel_rfl) (ftOf_cons s11 ftOf_nil) (by kernel_rfl) (fun _ => by kernel_rfl) r115
/- 88 loop.example/g00513/laws.markRecoderS -/
def e88 : FE := ⟨[(false, [.l ca171]), (false, [.i .i64])], [(false, [.i .i64])], true, true, gmk [.l ca171]⟩
noncomputable def ft88 : Nat → Option FE := ftOf [(115, e115)]
def hint88 : Nat → Hint := fun
  | 2 => ⟨[0, 1, 5], [], [1], [], [], []⟩
  | _ => {}
def ord88 : Nat → List Nat := fun _ => []
noncomputable def b88_rlrll : Code := Code.l (Code.l (Code.r (Code.l (Code.r (bodyOf Tryz.f88)))))
noncomputable def b88_rr : Code := Code.r (Code.r (bodyOf Tryz.f88))
def S88_2 (x0 : List (Unit × Unit × Unit × (List (Unit × List (Unit) × List (Unit))) × Unit)) (x1 : Int) (x2 : Int) : St := ⟨[.d false ca171 x0, .v (.int .i64 x1), .bad, .bad, .bad, .v (.int .i64 x2), .bad, .bad, .bad, .bad, .bad, .bad, .bad, .bad, .bad, .bad, .bad, .bad, .bad, .bad, .bad, .bad, .bad, .bad, .bad, .bad, .bad, .bad, .bad, .bad, .bad, .bad, .bad, .bad, .bad, .bad, .bad, .bad, .bad, .bad, .bad, .bad, .bad, .bad, .bad, .bad, .bad, .bad], []⟩
def X88_2_0 (x0 : Int) : St := ⟨[.bad, .v (.int .i64 x0), .bad, .bad, .bad, .bad, .bad, .bad, .bad, .bad, .bad, .bad, .bad, .bad, .bad, .bad, .bad, .bad, .bad, .bad, .bad, .bad, .bad, .bad, .bad, .bad, .bad, .bad, .bad, .bad, .bad, .bad, .bad, .bad, .bad, .bad, .bad, .bad, .bad, .bad, .bad, .bad, .bad, .bad, .bad, .bad, .bad, .bad], []⟩
theorem en88 (n : Nat) (a0 : (List (Unit × Unit × Unit × (List (Unit × List (Unit) × List (Unit))) × Unit))) (a1 : Int) : runF tabE ft88 hint88 ord88 Tryz.f88 [(false, [.l ca171]), (false, [.i .i64])] [(false, [.i .i64])] true n (a0, a1) =
  (loopK (codeK tabE ft88 hint88 ord88 b88_rlrll n) (hint88 2) n (S88_2 a0 a1 0) (Ex.block 0 (sK tabE ft88 hint88 ord88 n b88_rr (retK tabE Tryz.f88 true [(false, [.i .i64])]))) : Option (Int)) := by kernel_rfl
theorem st88_2 {R : Type} (n m : Nat) (K : Ex → St → Option R) (x0 : List (Unit × Unit × Unit × (List (Unit × List (Unit) × List (Unit))) × Unit)) (x1 : Int) (x2 : Int) : loopK (codeK tabE ft88 hint88 ord88 b88_rlrll n) (hint88 2) (m + 1) (S88_2 x0 x1 x2) K =
  bif (decide (x2 < (x0.length : Int))) then
  (bif decide (0 ≤ x2) && decide (x2 < (x0.length : Int)) then
    (bif decide (0 ≤ x2) && decide (x2 < (x0.length : Int)) then
      (bif decide (0 ≤ x2) && decide (x2 < (x0.length : Int)) then
        (bif decide (0 ≤ x2) && decide (x2 < (x0.length : Int)) then
          ((gmk [.l ca228] (((x0.getD x2.toNat da171).2.2.2).1, (IntKind.wrap .i64 ((IntKind.wrap .i64 ((IntKind.wrap .i64 (x1 + 1)) + 1)) + 1)))).bind fun y2 =>
            bif decide (0 ≤ x2) && decide (x2 < (x0.length : Int)) then
            (loopK (codeK tabE ft88 hint88 ord88 b88_rlrll n) (hint88 2) m (S88_2 x0 (IntKind.wrap .i64 (y2 + 1)) (IntKind.wrap .i64 (x2 + 1))) K)
            else (none))
          else (none))
        else (none))
      else (none))
    else (none))
  else (K (.exit 0) (X88_2_0 x1)) := by kernel_rfl
theorem ex88_2_0 (n : Nat) (x0 : Int) : (Ex.block 0 (sK tabE ft88 hint88 ord88 n b88_rr (retK tabE Tryz.f88 true [(false, [.i .i64])]))) (.exit 0) (X88_2_0 x0) =
  (some x0 : Option (Int)) := by kernel_rfl
def EL88 (x : CT.denL ca171) : Nat := elC ca171 x
theorem r88 : ∀ x y, okP e88.ps x → e88.φ x = some y → ∃ n, runF tabE ft88 hint88 ord88 Tryz.f88 e88.ps e88.rs e88.fr n x = some y := by
  rintro ⟨(a : (List (Unit × Unit × Unit × (List (Unit × List (Unit) × List (Unit))) × Unit))), (k : Int)⟩ y ok h
  obtain ⟨h0, h1, rfl⟩ := gmk_some (cs := [.l ca171]) h
  have ha : a.length ≤ maxLen := ok.1.1
  refine ⟨a.length + 1, (en88 _ a k).trans ?_⟩
  refine mkLoop0 (cs := ca171) da171 (fun m x k i => loopK (codeK tabE ft88 hint88 ord88 b88_rlrll (a.length + 1)) (hint88 2) m (S88_2 x k i) (Ex.block 0 (sK tabE ft88 hint88 ord88 (a.length + 1) b88_rr (retK tabE Tryz.f88 true [(false, [.i .i64])])))) (fun k => (Ex.block 0 (sK tabE ft88 hint88 ord88 (a.length + 1) b88_rr (retK tabE Tryz.f88 true [(false, [.i .i64])]))) (.exit 0) (X88_2_0 k)) (fun k => ex88_2_0 _ k) (fun m (x0 : List (Unit × Unit × Unit × (List (Unit × List (Unit) × List (Unit))) × Unit)) x1 x2 hi => ?_) (fun m (x0 : List (Unit × Unit × Unit × (List (Unit × List (Unit) × List (Unit))) × Unit)) x1 x2 hi hx hlen hk hb => ?_) a ha k h0 h1
  · exact (st88_2 _ m _ x0 x1 x2).trans (bif_false (decide_eq_false hi) rfl)
  · replace hb : x1 + (((1 + (1 + (1 + (cntS [.l ca228] ((x0.getD x2.toNat da171).2.2.2.1) + 1)))) : Nat) : Int) ≤ 4611686018427387904 := hb
    exact (st88_2 _ m _ x0 x1 x2).trans (bif_true (decide_eq_true hx) (bif_true (in2 hi hx) (bif_true (in2 hi hx) (bif_true (in2 hi hx) (bif_true (in2 hi hx) (gmkB (cs := [.l ca228]) (c := cntS [.l ca228] (((x0.getD x2.toNat da171).2.2.2).1)) (kk := x1 + 1 + 1 + 1) rfl (by first | rfl | simp (disch := omega) only [wrap_succ]) (by omega) (by omega) (bif_true (in2 hi hx) (show loopK (codeK tabE ft88 hint88 ord88 b88_rlrll (a.length + 1)) (hint88 2) m (S88_2 x0 (IntKind.wrap .i64 ((x1 + 1 + 1 + 1 + ((cntS [.l ca228] (((x0.getD x2.toNat da171).2.2.2).1) : Nat) : Int)) + 1)) (IntKind.wrap .i64 (x2 + 1))) (Ex.block 0 (sK tabE ft88 hint88 ord88 (a.length + 1) b88_rr (retK tabE Tryz.f88 true [(false, [.i .i64])]))) = loopK (codeK tabE ft88 hint88 ord88 b88_rlrll (a.length + 1)) (hint88 2) m (S88_2 x0 (x1 + (((1 + (1 + (1 + (cntS [.l ca228] ((x0.getD x2.toNat da171).2.2.2.1) + 1)))) : Nat) : Int)) (x2 + 1)) (Ex.block 0 (sK tabE ft88 hint88 ord88 (a.length + 1) b88_rr (retK tabE Tryz.f88 true [(false, [.i .i64])]))) from by
    rw [show (IntKind.wrap .i64 ((x1 + 1 + 1 + 1 + ((cntS [.l ca228] (((x0.getD x2.toNat da171).2.2.2).1) : Nat) : Int)) + 1)) = x1 + 1 + 1 + 1 + ((cntS [.l ca228] (((x0.getD x2.toNat da171).2.2.2).1) : Nat) : Int) + 1 from by first | rfl | (simp (disch := omega) only [wrap_succ]), wrap_succ (i := x2) (by omega) (by omega)]
    all_goals rw [show x1 + 1 + 1 + 1 + ((cntS [.l ca228] (((x0.getD x2.toNat da171).2.2.2).1) : Nat) : Int) + 1 = x1 + (((1 + (1 + (1 + (cntS [.l ca228] ((x0.getD x2.toNat da171).2.2.2.1) + 1)))) : Nat) : Int) from by omega]))))))))
theorem s88 : Sat Tryz.prog 88 e88 := sat_of_run Tryz.func88 (c := bodyOf Tryz.f88) (by kernel_rfl) (ne_of_dec (by kernel_rfl)) mixed tabE_ok (by kernel_rfl) (ftOf_cons s115 ftOf_nil) (by kernel_rfl) (fun _ => by kernel_rfl) r88
/- 116 loop.example/g00513/laws.markFeedbackS -/
def e116 : FE := ⟨[(false, [.l ca176]), (false, [.i .i64])], [(false, [.i .i64])], true, true, gmk [.l ca176]⟩
def ft116 : Nat → Option FE := ftOf []
def hint116 : Nat → Hint := fun
  | 2 => ⟨[0, 1, 5], [], [1], [], [], []⟩
  | _ => {}
def ord116 : Nat → List Nat := fun _ => []
noncomputable def b116_rlrll : Code := Code.l (Code.l (Code.r (Code.l (Code.r (bodyOf Tryz.f116)))))
noncomputable def b116_rr : Code := Code.r (Code.r (bodyOf Tryz.f116))
def S116_2 (x0 : List (Unit × Unit × Unit)) (x1 : Int) (x2 : Int) : St := ⟨[.d false ca176 x0, .v (.int .i64 x1), .bad, .bad, .bad, .v (.int .i64 x2), .bad, .bad, .bad, .bad, .bad, .bad, .bad, .bad, .bad, .bad, .bad, .bad, .bad, .bad, .bad, .bad, .bad, .bad, .bad, .bad, .bad, .bad, .bad, .bad, .bad, .bad, .bad, .bad], []⟩
def X116_2_0 (x0 : Int) : St := ⟨[.bad, .v (.int .i64 x0), .bad, .bad, .bad, .bad, .bad, .bad, .bad, .bad, .bad, .bad, .bad, .bad, .bad, .bad, .bad, .bad, .bad, .bad, .bad, .bad, .bad, .bad, .bad, .bad, .bad, .bad, .bad, .bad, .bad, .bad, .bad, .bad], []⟩
theorem en116 (n : Nat) (a0 : (List (Unit × Unit × Unit))) (a1 : Int) : runF tabE ft116 hint116 ord116 Tryz.f116 [(false, [.l ca176]), (false, [.i .i64])] [(false, [.i .i64])] true n (a0, a1) =
  (loopK (codeK tabE ft116 hint116 ord116 b116_rlrll n) (hint116 2) n (S116_2 a0 a1 0) (Ex.block 0 (sK tabE ft116 hint116 ord116 n b116_rr (retK tabE Tryz.f116 true [(false, [.i .i64])]))) : Option (Int)) := by kernel_rfl
theorem st116_2 {R : Type} (n m : Nat) (K : Ex → St → Option R) (x0 : List (Unit × Unit × Unit)) (x1 : Int) (x2 : Int) : loopK (codeK tabE ft116 hint116 ord116 b116_rlrll n) (hint116 2) (m + 1) (S116_2 x0 x1 x2) K =
  bif (decide (x2 < (x0.length : Int))) then
  (bif decide (0 ≤ x2) && decide (x2 < (x0.length : Int)) then
    (bif decide (0 ≤ x2) && decide (x2 < (x0.length : Int)) then
      (bif decide (0 ≤ x2) && decide (x2 < (x0.length : Int)) then
        (loopK (codeK tabE ft116 hint116 ord116 b116_rlrll n) (hint116 2) m (S116_2 x0 (IntKind.wrap .i64 ((IntKind.wrap .i64 ((IntKind.wrap .i64 (x1 + 1)) + 1)) + 1)) (IntKind.wrap .i64 (x2 + 1))) K)
        else (none))
      else (none))
    else (none))
  else (K (.exit 0) (X116_2_0 x1)) := by kernel_rfl
theorem ex116_2_0 (n : Nat) (x0 : Int) : (Ex.block 0 (sK tabE ft116 hint116 ord116 n b116_rr (retK tabE Tryz.f116 true [(false, [.i .i64])]))) (.exit 0) (X116_2_0 x0) =
  (some x0 : Option (Int)) := by kernel_rfl
def EL116 (x : CT.denL ca176) : Nat := elC ca176 x
theorem r116 : ∀ x y, okP e116.ps x → e116.φ x = some y → ∃ n, runF tabE ft116 hint116 ord116 Tryz.f116 e116.ps e116.rs e116.fr n x = some y := by
  rintro ⟨(a : (List (Unit × Unit × Unit))), (k : Int)⟩ y ok h
  obtain ⟨h0, h1, rfl⟩ := gmk_some (cs := [.l ca176]) h
  have ha : a.length ≤ maxLen := ok.1.1
  refine ⟨a.length + 1, (en116 _ a k).trans ?_⟩
  refine mkLoop0 (cs := ca176) da176 (fun m x k i => loopK (codeK tabE ft116 hint116 ord116 b116_rlrll (a.length + 1)) (hint116 2) m (S116_2 x k i) (Ex.block 0 (sK tabE ft116 hint116 ord116 (a.length + 1) b116_rr (retK tabE Tryz.f116 true [(false, [.i .i64])])))) (fun k => (Ex.block 0 (sK tabE ft116 hint116 ord116 (a.length + 1) b116_rr (retK tabE Tryz.f116 true [(false, [.i .i64])]))) (.exit 0) (X116_2_0 k)) (fun k => ex116_2_0 _ k) (fun m (x0 : List (Unit × Unit × Unit)) x1 x2 hi => ?_) (fun m (x0 : List (Unit × Unit × Unit)) x1 x2 hi hx hlen hk hb => ?_) a ha k h0 h1
  · exact (st116_2 _ m _ x0 x1 x2).trans (bif_false (decide_eq_false hi) rfl)
  · replace hb : x1 + (((1 + (1 + 1)) : Nat) : Int) ≤ 4611686018427387904 := hb
    exact (st116_2 _ m _ x0 x1 x2).trans (bif_true (decide_eq_true hx) (bif_true (in2 hi hx) (bif_true (in2 hi hx) (bif_true (in2 hi hx) (show loopK (codeK tabE ft116 hint116 ord116 b116_rlrll (a.length + 1)) (hint116 2) m (S116_2 x0 (IntKind.wrap .i64 ((IntKind.wrap .i64 ((IntKind.wrap .i64 (x1 + 1)) + 1)) + 1)) (IntKind.wrap .i64 (x2 + 1))) (Ex.block 0 (sK tabE ft116 hint116 ord116 (a.length + 1) b116_rr (retK tabE Tryz.f116 true [(false, [.i .i64])]))) = loopK (codeK tabE ft116 hint116 ord116 b116_rlrll (a.length + 1)) (hint116 2) m (S116_2 x0 (x1 + (((1 + (1 + 1)) : Nat) : Int)) (x2 + 1)) (Ex.block 0 (sK tabE ft116 hint116 ord116 (a.length + 1) b116_rr (retK tabE Tryz.f116 true [(false, [.i .i64])]))) from by
    rw [show (IntKind.wrap .i64 ((IntKind.wrap .i64 ((IntKind.wrap .i64 (x1 + 1)) + 1)) + 1)) = x1 + 1 + 1 + 1 from by first | rfl | (simp (disch := omega) only [wrap_succ]), wrap_succ (i := x2) (by omega) (by omega)]
    all_goals rw [show x1 + 1 + 1 + 1 = x1 + (((1 + (1 + 1)) : Nat) : Int) from by omega])))))
theorem s116 : Sat Tryz.prog 116 e116 := sat_of_run Tryz.func116 (c := bodyOf Tryz.f116) (by kernel_rfl) (ne_of_dec (by kernel_rfl)) mixed tabE_ok (by kernel_rfl) ftOf_nil (by kernel_rfl) (fun _ => by kernel_rfl) r116
/- 89 loop.example/g00513/laws.markFeedbackTable -/
def e89 : FE := ⟨[(true, [.l ca176]), (false, [.i .i64])], [(false, [.i .i64])], true, true, gmk [.l ca176]⟩
noncomputable def ft89 : Nat → Option FE := ftOf [(116, e116)]
def hint89 : Nat → Hint := fun _ => {}
def ord89 : Nat → List Nat := fun _ => []
theorem en89 (n : Nat) (a0 : (List (Unit × Unit × Unit))) (a1 : Int) : runF tabE ft89 hint89 ord89 Tryz.f89 [(true, [.l ca176]), (false, [.i .i64])] [(false, [.i .i64])] true n (a0, a1) =
  ((gmk [.l ca176] (a0, a1)).bind fun y1 =>
  some y1 : Option (Int)) := by kernel_rfl
theorem r89 : ∀ x y, okP e89.ps x → e89.φ x = some y → ∃ n, runF tabE ft89 hint89 ord89 Tryz.f89 e89.ps e89.rs e89.fr n x = some y := by
  rintro ⟨(a : (List (Unit × Unit × Unit))), (k : Int)⟩ y ok h
  obtain ⟨h0, h1, rfl⟩ := gmk_some (cs := [.l ca176]) h
  replace h1 : k + ((cntS [.l ca176] a : Nat) : Int) ≤ 4611686018427387904 := h1
  exact ⟨0, (en89 0 a k).trans (gmkB (cs := [.l ca176]) (c := cntS [.l ca176] a) (kk := k) rfl (by first | rfl | simp (disch := omega) only [wrap_succ]) (by omega) (by omega) (congrArg some (show k + ((cntS [.l ca176] a : Nat) : Int) = k + ((cntS [.l ca176] a : Nat) : Int) from by omega)))⟩
theorem s89 : Sat Tryz.prog 89 e89 := sat_of_run Tryz.func89 (c := bodyOf Tryz.f89) (by kernel_rfl) (ne_of_dec (by kernel_rfl)) mixed tabE_ok (by kernel_rfl) (ftOf_cons s116 ftOf_nil) (by kernel_rfl) (fun _ => by kernel_rfl) r89
/- 41 loop.example/g00513/laws.markSource -/
def e41 : FE := ⟨[(true, [.l ca167, .any .i64, .any .i64, .any .i64, .any .i64, .l ca171, .l ca176, .any .i64]), (false, [.i .i64])], [(false, [.i .i64])], true, true, gmk [.l ca167, .any .i64, .any .i64, .any .i64, .any .i64, .l ca171, .l ca176, .any .i64]⟩
noncomputable def ft41 : Nat → Option FE := ftOf [(87, e87), (88, e88), (89, e89)]
def hint41 : Nat → Hint := fun _ => {}
def ord41 : Nat → List Nat := fun _ => []
theorem en41 (n : Nat) (a0 : (List (Unit × List (List (Unit)))) × Unit × Unit × Unit × Unit × (List (Unit × Unit × Unit × (List (Unit × List (Unit) × List (Unit))) × Unit)) × (List (Unit × Unit × Unit)) × Unit) (a1 : Int) : runF tabE ft41 hint41 ord41 Tryz.f41 [(true, [.l ca167, .any .i64, .any .i64, .any .i64, .any .i64, .l ca171, .l ca176, .any .i64]), (false, [.i .i64])] [(false, [.i .i64])] true n (a0, a1) =
  ((gmk [.l ca167] (a0.1, a1)).bind fun y1 =>
  (gmk [.l ca171] (a0.2.2.2.2.2.1, y1)).bind fun y2 =>
  (gmk [.l ca176] (a0.2.2.2.2.2.2.1, y2)).bind fun y3 =>
  some y3 : Option (Int)) := by kernel_rfl
theorem r41 : ∀ x y, okP e41.ps x → e41.φ x = some y → ∃ n, runF tabE ft41 hint41 ord41 Tryz.f41 e41.ps e41.rs e41.fr n x = some y := by
  rintro ⟨(a : (List (Unit × List (List (Unit)))) × Unit × Unit × Unit × Unit × (List (Unit × Unit × Unit × (List (Unit × List (Unit) × List (Unit))) × Unit)) × (List (Unit × Unit × Unit)) × Unit), (k : Int)⟩ y ok h
  obtain ⟨h0, h1, rfl⟩ := gmk_some (cs := [.l ca167, .any .i64, .any .i64, .any .i64, .any .i64, .l ca171, .l ca176, .any .i64]) h
  replace h1 : k + (((cntS [.l ca167] a.1 + (cntS [.l ca171] a.2.2.2.2.2.1 + (cntS [.l ca176] a.2.2.2.2.2.2.1 + 0))) : Nat) : Int) ≤ 4611686018427387904 := h1
  exact ⟨0, (en41 0 a k).trans (gmkB (cs := [.l ca167]) (c := cntS [.l ca167] a.1) (kk := k) rfl (by first | rfl | simp (disch := omega) only [wrap_succ]) (by omega) (by omega) (gmkB (cs := [.l ca171]) (c := cntS [.l ca171] a.2.2.2.2.2.1) (kk := k + ((cntS [.l ca167] a.1 : Nat) : Int)) rfl (by first | rfl | simp (disch := omega) only [wrap_succ]) (by omega) (by omega) (gmkB (cs := [.l ca176]) (c := cntS [.l ca176] a.2.2.2.2.2.2.1) (kk := k + ((cntS [.l ca167] a.1 : Nat) : Int) + ((cntS [.l ca171] a.2.2.2.2.2.1 : Nat) : Int)) rfl (by first | rfl | simp (disch := omega) only [wrap_succ]) (by omega) (by omega) (congrArg some (show k + ((cntS [.l ca167] a.1 : Nat) : Int) + ((cntS [.l ca171] a.2.2.2.2.2.1 : Nat) : Int) + ((cntS [.l ca176] a.2.2.2.2.2.2.1 : Nat) : Int) = k + (((cntS [.l ca167] a.1 + (cntS [.l ca171] a.2.2.2.2.2.1 + (cntS [.l ca176] a.2.2.2.2.2.2.1 + 0))) : Nat) : Int) from by omega)))))⟩
theorem s41 : Sat Tryz.prog 41 e41 := sat_of_run Tryz.func41 (c := bodyOf Tryz.f41) (by kernel_rfl) (ne_of_dec (by kernel_rfl)) mixed tabE_ok (by kernel_rfl) (ftOf_cons s87 (ftOf_cons s88 (ftOf_cons s89 ftOf_nil))) (by kernel_rfl) (fun _ => by kernel_rfl) r41
/- 42 loop.example/g00513/laws.markRelayS -/
def e42 : FE := ⟨[(false, [.l ca110]), (false, [.i .i64])], [(false, [.i .i64])], true, true, gmk [.l ca110]⟩
noncomputable def ft42 : Nat → Option FE := ftOf [(88, e88)]
def hint42 : Nat → Hint := fun
  | 2 => ⟨[0, 1, 5], [], [1], [], [], []⟩
  | _ => {}
def ord42 : Nat → List Nat := fun _ => []
noncomputable def b42_rlrll : Code := Code.l (Code.l (Code.r (Code.l (Code.r (bodyOf Tryz.f42)))))
noncomputable def b42_rr : Code := Code.r (Code.r (bodyOf Tryz.f42))
def S42_2 (x0 : List (Unit × (List (Unit × Unit × Unit × (List (Unit × List (Unit) × List (Unit))) × Unit)))) (x1 : Int) (x2 : Int) : St := ⟨[.d false ca110 x0, .v (.int .i64 x1), .bad, .bad, .bad, .v (.int .i64 x2), .bad, .bad, .bad, .bad, .bad, .bad, .bad, .bad, .bad, .bad, .bad, .bad, .bad, .bad, .bad, .bad, .bad, .bad, .bad, .bad, .bad], []⟩
def X42_2_0 (x0 : Int) : St := ⟨[.bad, .v (.int .i64 x0), .bad, .bad, .bad, .bad, .bad, .bad, .bad, .bad, .bad, .bad, .bad, .bad, .bad, .bad, .bad, .bad, .bad, .bad, .bad, .bad, .bad, .bad, .bad, .bad, .bad], []⟩
theorem en42 (n : Nat) (a0 : (List (Unit × (List (Unit × Unit × Unit × (List (Unit × List (Unit) × List (Unit))) × Unit))))) (a1 : Int) : runF tabE ft42 hint42 ord42 Tryz.f42 [(false, [.l ca110]), (false, [.i .i64])] [(false, [.i .i64])] true n (a0, a1) =
  (loopK (codeK tabE ft42 hint42 ord42 b42_rlrll n) (hint42 2) n (S42_2 a0 a1 0) (Ex.block 0 (sK tabE ft42 hint42 ord42 n b42_rr (retK tabE Tryz.f42 true [(false, [.i .i64])]))) : Option (Int)) := by kernel_rfl
theorem st42_2 {R : Type} (n m : Nat) (K : Ex → St → Option R) (x0 : List (Unit × (List (Unit × Unit × Unit × (List (Unit × List (Unit) × List (Unit))) × Unit)))) (x1 : Int) (x2 : Int) : loopK (codeK tabE ft42 hint42 ord42 b42_rlrll n) (hint42 2) (m + 1) (S42_2 x0 x1 x2) K =
  bif (decide (x2 < (x0.length : Int))) then
  (bif decide (0 ≤ x2) && decide (x2 < (x0.length : Int)) then
    (bif decide (0 ≤ x2) && decide (x2 < (x0.length : Int)) then
      ((gmk [.l ca171] ((x0.getD x2.toNat da110).2, (IntKind.wrap .i64 (x1 + 1)))).bind fun y2 =>
        loopK (codeK tabE ft42 hint42 ord42 b42_rlrll n) (hint42 2) m (S42_2 x0 y2 (IntKind.wrap .i64 (x2 + 1))) K)
      else (none))
    else (none))
  else (K (.exit 0) (X42_2_0 x1)) := by kernel_rfl
theorem ex42_2_0 (n : Nat) (x0 : Int) : (Ex.block 0 (sK tabE ft42 hint42 ord42 n b42_rr (retK tabE Tryz.f42 true [(false, [.i .i64])]))) (.exit 0) (X42_2_0 x0) =
  (some x0 : Option (Int)) := by kernel_rfl
def EL42 (x : CT.denL ca110) : Nat := elC ca110 x
theorem r42 : ∀ x y, okP e42.ps x → e42.φ x = some y → ∃ n, runF tabE ft42 hint42 ord42 Tryz.f42 e42.ps e42.rs e42.fr n x = some y := by
  rintro ⟨(a : (List (Unit × (List (Unit × Unit × Unit × (List (Unit × List (Unit) × List (Unit))) × Unit))))), (k : Int)⟩ y ok h
  obtain ⟨h0, h1, rfl⟩ := gmk_some (cs := [.l ca110]) h
  have ha : a.length ≤ maxLen := ok.1.1
  refine ⟨a.length + 1, (en42 _ a k).trans ?_⟩
  refine mkLoop0 (cs := ca110) da110 (fun m x k i => loopK (codeK tabE ft42 hint42 ord42 b42_rlrll (a.length + 1)) (hint42 2) m (S42_2 x k i) (Ex.block 0 (sK tabE ft42 hint42 ord42 (a.length + 1) b42_rr (retK tabE Tryz.f42 true [(false, [.i .i64])])))) (fun k => (Ex.block 0 (sK tabE ft42 hint42 ord42 (a.length + 1) b42_rr (retK tabE Tryz.f42 true [(false, [.i .i64])]))) (.exit 0) (X42_2_0 k)) (fun k => ex42_2_0 _ k) (fun m (x0 : List (Unit × (List (Unit × Unit × Unit × (List (Unit × List (Unit) × List (Unit))) × Unit)))) x1 x2 hi => ?_) (fun m (x0 : List (Unit × (List (Unit × Unit × Unit × (List (Unit × List (Unit) × List (Unit))) × Unit)))) x1 x2 hi hx hlen hk hb => ?_) a ha k h0 h1
  · exact (st42_2 _ m _ x0 x1 x2).trans (bif_false (decide_eq_false hi) rfl)
  · replace hb : x1 + (((1 + cntS [.l ca171] ((x0.getD x2.toNat da110).2)) : Nat) : Int) ≤ 4611686018427387904 := hb
    exact (st42_2 _ m _ x0 x1 x2).trans (bif_true (decide_eq_true hx) (bif_true (in2 hi hx) (bif_true (in2 hi hx) (gmkB (cs := [.l ca171]) (c := cntS [.l ca171] ((x0.getD x2.toNat da110).2)) (kk := x1 + 1) rfl (by first | rfl | simp (disch := omega) only [wrap_succ]) (by omega) (by omega) (show loopK (codeK tabE ft42 hint42 ord42 b42_rlrll (a.length + 1)) (hint42 2) m (S42_2 x0 (x1 + 1 + ((cntS [.l ca171] ((x0.getD x2.toNat da110).2) : Nat) : Int)) (IntKind.wrap .i64 (x2 + 1))) (Ex.block 0 (sK tabE ft42 hint42 ord42 (a.length + 1) b42_rr (retK tabE Tryz.f42 true [(false, [.i .i64])]))) = loopK (codeK tabE ft42 hint42 ord42 b42_rlrll (a.length + 1)) (hint42 2) m (S42_2 x0 (x1 + (((1 + cntS [.l ca171] ((x0.getD x2.toNat da110).2)) : Nat) : Int)) (x2 + 1)) (Ex.block 0 (sK tabE ft42 hint42 ord42 (a.length + 1) b42_rr (retK tabE Tryz.f42 true [(false, [.i .i64])]))) from by
    rw [show (x1 + 1 + ((cntS [.l ca171] ((x0.getD x2.toNat da110).2) : Nat) : Int)) = x1 + 1 + ((cntS [.l ca171] ((x0.getD x2.toNat da110).2) : Nat) : Int) from by first | rfl | (simp (disch := omega) only [wrap_succ]), wrap_succ (i := x2) (by omega) (by omega)]
    all_goals rw [show x1 + 1 + ((cntS [.l ca171] ((x0.getD x2.toNat da110).2) : Nat) : Int) = x1 + (((1 + cntS [.l ca171] ((x0.getD x2.toNat da110).2)) : Nat) : Int) from by omega])))))
theorem s42 : Sat Tryz.prog 42 e42 := sat_of_run Tryz.func42 (c := bodyOf Tryz.f42) (by kernel_rfl) (ne_of_dec (by kernel_rfl)) mixed tabE_ok (by kernel_rfl) (ftOf_cons s88 ftOf_nil) (by kernel_rfl) (fun _ => by kernel_rfl) r42
/- 90 loop.example/g00513/laws.markDecoderS -/
def e90 : FE := ⟨[(false, [.l ca207]), (false, [.i .i64])], [(false, [.i .i64])], true, true, gmk [.l ca207]⟩
noncomputable def ft90 : Nat → Option FE := ftOf [(114, e114)]
def hint90 : Nat → Hint := fun
  | 2 => ⟨[0, 1, 5], [], [1], [], [], []⟩
  | _ => {}
def ord90 : Nat → List Nat := fun _ => []
noncomputable def b90_rlrll : Code := Code.l (Code.l (Code.r (Code.l (Code.r (bodyOf Tryz.f90)))))
noncomputable def b90_rr : Code := Code.r (Code.r (bodyOf Tryz.f90))
def S90_2 (x0 : List (Unit × Unit × Unit × Unit × List (List (Unit)))) (x1 : Int) (x2 : Int) : St := ⟨[.d false ca207 x0, .v (.int .i64 x1), .bad, .bad, .bad, .v (.int .i64 x2), .bad, .bad, .bad, .bad, .bad, .bad, .bad, .bad, .bad, .bad, .bad, .bad, .bad, .bad, .bad, .bad, .bad, .bad, .bad, .bad, .bad, .bad, .bad, .bad, .bad, .bad, .bad, .bad, .bad, .bad, .bad, .bad, .bad, .bad, .bad, .bad, .bad, .bad, .bad, .bad, .bad, .bad, .bad, .bad], []⟩
def X90_2_0 (x0 : Int) : St := ⟨[.bad, .v (.int .i64 x0), .bad, .bad, .bad, .bad, .bad, .bad, .bad, .bad, .bad, .bad, .bad, .bad, .bad, .bad, .bad, .bad, .bad, .bad, .bad, .bad, .bad, .bad, .bad, .bad, .bad, .bad, .bad, .bad, .bad, .bad, .bad, .bad, .bad, .bad, .bad, .bad, .bad, .bad, .bad, .bad, .bad, .bad, .bad, .bad, .bad, .bad, .bad, .bad], []⟩
theorem en90 (n : Nat) (a0 : (List (Unit × Unit × Unit × Unit × List (List (Unit))))) (a1 : Int) : runF tabE ft90 hint90 ord90 Tryz.f90 [(false, [.l ca207]), (false, [.i .i64])] [(false, [.i .i64])] true n (a0, a1) =
  (loopK (codeK tabE ft90 hint90 ord90 b90_rlrll n) (hint90 2) n (S90_2 a0 a1 0) (Ex.block 0 (sK tabE ft90 hint90 ord90 n b90_rr (retK tabE Tryz.f90 true [(false, [.i .i64])]))) : Option (Int)) := by kernel_rfl
theorem st90_2 {R : Type} (n m : Nat) (K : Ex → St → Option R) (x0 : List (Unit × Unit × Unit × Unit × List (List (Unit)))) (x1 : Int) (x2 : Int) : loopK (codeK tabE ft90 hint90 ord90 b90_rlrll n) (hint90 2) (m + 1) (S90_2 x0 x1 x2) K =
  bif (decide (x2 < (x0.length : Int))) then
  (bif decide (0 ≤ x2) && decide (x2 < (x0.length : Int)) then
    (bif decide (0 ≤ x2) && decide (x2 < (x0.length : Int)) then
      (bif decide (0 ≤ x2) && decide (x2 < (x0.length : Int)) then
        (bif decide (0 ≤ x2) && decide (x2 < (x0.length : Int)) then
          (bif decide (0 ≤ x2) && decide (x2 < (x0.length : Int)) then
            ((gmk [.l ca36] (((x0.getD x2.toNat da207).2.2.2).2, (IntKind.wrap .i64 ((IntKind.wrap .i64 ((IntKind.wrap .i64 ((IntKind.wrap .i64 (x1 + 1)) + 1)) + 1)) + 1)))).bind fun y2 =>
              loopK (codeK tabE ft90 hint90 ord90 b90_rlrll n) (hint90 2) m (S90_2 x0 y2 (IntKind.wrap .i64 (x2 + 1))) K)
            else (none))
          else (none))
        else (none))
      else (none))
    else (none))
  else (K (.exit 0) (X90_2_0 x1)) := by kernel_rfl
theorem ex90_2_0 (n : Nat) (x0 : Int) : (Ex.block 0 (sK tabE ft90 hint90 ord90 n b90_rr (retK tabE Tryz.f90 true [(false, [.i .i64])]))) (.exit 0) (X90_2_0 x0) =
  (some x0 : Option (Int)) := by kernel_rfl
def EL90 (x : CT.denL ca207) : Nat := elC ca207 x
theorem r90 : ∀ x y, okP e90.ps x → e90.φ x = some y → ∃ n, runF tabE ft90 hint90 ord90 Tryz.f90 e90.ps e90.rs e90.fr n x = some y := by
  rintro ⟨(a : (List (Unit × Unit × Unit × Unit × List (List (Unit))))), (k : Int)⟩ y ok h
  obtain ⟨h0, h1, rfl⟩ := gmk_some (cs := [.l ca207]) h
  have ha : a.length ≤ maxLen := ok.1.1
  refine ⟨a.length + 1, (en90 _ a k).trans ?_⟩
  refine mkLoop0 (cs := ca207) da207 (fun m x k i => loopK (codeK tabE ft90 hint90 ord90 b90_rlrll (a.length + 1)) (hint90 2) m (S90_2 x k i) (Ex.block 0 (sK tabE ft90 hint90 ord90 (a.length + 1) b90_rr (retK tabE Tryz.f90 true [(false, [.i .i64])])))) (fun k => (Ex.block 0 (sK tabE ft90 hint90 ord90 (a.length + 1) b90_rr (retK tabE Tryz.f90 true [(false, [.i .i64])]))) (.exit 0) (X90_2_0 k)) (fun k => ex90_2_0 _ k) (fun m (x0 : List (Unit × Unit × Unit × Unit × List (List (Unit)))) x1 x2 hi => ?_) (fun m (x0 : List (Unit × Unit × Unit × Unit × List (List (Unit)))) x1 x2 hi hx hlen hk hb => ?_) a ha k h0 h1
  · exact (st90_2 _ m _ x0 x1 x2).trans (bif_false (decide_eq_false hi) rfl)
  · replace hb : x1 + (((1 + (1 + (1 + (1 + cntS [.l ca36] ((x0.getD x2.toNat da207).2.2.2.2))))) : Nat) : Int) ≤ 4611686018427387904 := hb
    exact (st90_2 _ m _ x0 x1 x2).trans (bif_true (decide_eq_true hx) (bif_true (in2 hi hx) (bif_true (in2 hi hx) (bif_true (in2 hi hx) (bif_true (in2 hi hx) (bif_true (in2 hi hx) (gmkB (cs := [.l ca36]) (c := cntS [.l ca36] (((x0.getD x2.toNat da207).2.2.2).2)) (kk := x1 + 1 + 1 + 1 + 1) rfl (by first | rfl | simp (disch := omega) only [wrap_succ]) (by omega) (by omega) (show loopK (codeK tabE ft90 hint90 ord90 b90_rlrll (a.length + 1)) (hint90 2) m (S90_2 x0 (x1 + 1 + 1 + 1 + 1 + ((cntS [.l ca36] (((x0.getD x2.toNat da207).2.2.2).2) : Nat) : Int)) (IntKind.wrap .i64 (x2 + 1))) (Ex.block 0 (sK tabE ft90 hint90 ord90 (a.length + 1) b90_rr (retK tabE Tryz.f90 true [(false, [.i .i64])]))) = loopK (codeK tabE ft90 hint90 ord90 b90_rlrll (a.length + 1)) (hint90 2) m (S90_2 x0 (x1 + (((1 + (1 + (1 + (1 + cntS [.l ca36] ((x0.getD x2.toNat da207).2.2.2.2))))) : Nat) : Int)) (x2 + 1)) (Ex.block 0 (sK tabE ft90 hint90 ord90 (a.length + 1) b90_rr (retK tabE Tryz.f90 true [(false, [.i .i64])]))) from by
    rw [show (x1 + 1 + 1 + 1 + 1 + ((cntS [.l ca36] (((x0.getD x2.toNat da207).2.2.2).2) : Nat) : Int)) = x1 + 1 + 1 + 1 + 1 + ((cntS [.l ca36] (((x0.getD x2.toNat da207).2.2.2).2) : Nat) : Int) from by first | rfl | (simp (disch := omega) only [wrap_succ]), wrap_succ (i := x2) (by omega) (by omega)]
    all_goals rw [show x1 + 1 + 1 + 1 + 1 + ((cntS [.l ca36] (((x0.getD x2.toNat da207).2.2.2).2) : Nat) : Int) = x1 + (((1 + (1 + (1 + (1 + cntS [.l ca36] ((x0.getD x2.toNat da207).2.2.2.2))))) : Nat) : Int) from by omega]))))))))
theorem s90 : Sat Tryz.prog 90 e90 := sat_of_run Tryz.func90 (c := bodyOf Tryz.f90) (by kernel_rfl) (ne_of_dec (by kernel_rfl)) mixed tabE_ok (by kernel_rfl) (ftOf_cons s114 ftOf_nil) (by kernel_rfl) (fun _ => by kernel_rfl) r90
/- 43 loop.example/g00513/laws.markSinkS -/
def e43 : FE := ⟨[(false, [.l ca114]), (false, [.i .i64])], [(false, [.i .i64])], true, true, gmk [.l ca114]⟩
noncomputable def ft43 : Nat → Option FE := ftOf [(11, e11), (87, e87), (90, e90)]
def hint43 : Nat → Hint := fun
  | 2 => ⟨[0, 1, 5], [], [1], [], [], []⟩
  | _ => {}
def ord43 : Nat → List Nat := fun _ => []
noncomputable def b43_rlrll : Code := Code.l (Code.l (Code.r (Code.l (Code.r (bodyOf Tryz.f43)))))
noncomputable def b43_rr : Code := Code.r (Code.r (bodyOf Tryz.f43))
def S43_2 (x0 : List (Unit × Unit × List (Unit) × (List (Unit × Unit × Unit × Unit × List (List (Unit)))) × (List (Unit × List (List (Unit)))) × Unit)) (x1 : Int) (x2 : Int) : St := ⟨[.d false ca114 x0, .v (.int .i64 x1), .bad, .bad, .bad, .v (.int .i64 x2), .bad, .bad, .bad, .bad, .bad, .bad, .bad, .bad, .bad, .bad, .bad, .bad, .bad, .bad, .bad, .bad, .bad, .bad, .bad, .bad, .bad, .bad, .bad, .bad, .bad, .bad, .bad, .bad, .bad, .bad, .bad, .bad, .bad, .bad, .bad, .bad, .bad, .bad, .bad, .bad, .bad, .bad, .bad, .bad, .bad, .bad, .bad, .bad, .bad], []⟩
def X43_2_0 (x0 : Int) : St := ⟨[.bad, .v (.int .i64 x0), .bad, .bad, .bad, .bad, .bad, .bad, .bad, .bad, .bad, .bad, .bad, .bad, .bad, .bad, .bad, .bad, .bad, .bad, .bad, .bad, .bad, .bad, .bad, .bad, .bad, .bad, .bad, .bad, .bad, .bad, .bad, .bad, .bad, .bad, .bad, .bad, .bad, .bad, .bad, .bad, .bad, .bad, .bad, .bad, .bad, .bad, .bad, .bad, .bad, .bad, .bad, .bad, .bad], []⟩
theorem en43 (n : Nat) (a0 : (List (Unit × Unit × List (Unit) × (List (Unit × Unit × Unit × Unit × List (List (Unit)))) × (List (Unit × List (List (Unit)))) × Unit))) (a1 : Int) : runF tabE ft43 hint43 ord43 Tryz.f43 [(false, [.l ca114]), (false, [.i .i64])] [(false, [.i .i64])] true n (a0, a1) =
  (loopK (codeK tabE ft43 hint43 ord43 b43_rlrll n) (hint43 2) n (S43_2 a0 a1 0) (Ex.block 0 (sK tabE ft43 hint43 ord43 n b43_rr (retK tabE Tryz.f43 true [(false, [.i .i64])]))) : Option (Int)) := by kernel_rfl
theorem st43_2 {R : Type} (n m : Nat) (K : Ex → St → Option R) (x0 : List (Unit × Unit × List (Unit) × (List (Unit × Unit × Unit × Unit × List (List (Unit)))) × (List (Unit × List (List (Unit)))) × Unit)) (x1 : Int) (x2 : Int) : loopK (codeK tabE ft43 hint43 ord43 b43_rlrll n) (hint43 2) (m + 1) (S43_2 x0 x1 x2) K =
  bif (decide (x2 < (x0.length : Int))) then
  (bif decide (0 ≤ x2) && decide (x2 < (x0.length : Int)) then
    (bif decide (0 ≤ x2) && decide (x2 < (x0.length : Int)) then
      (bif decide (0 ≤ x2) && decide (x2 < (x0.length : Int)) then
        ((gmk [.l ca3] (((x0.getD x2.toNat da114).2.2).1, (IntKind.wrap .i64 ((IntKind.wrap .i64 (x1 + 1)) + 1)))).bind fun y4 =>
          bif decide (0 ≤ x2) && decide (x2 < (x0.length : Int)) then
          ((gmk [.l ca207] (((x0.getD x2.toNat da114).2.2.2).1, y4)).bind fun y5 =>
            bif decide (0 ≤ x2) && decide (x2 < (x0.length : Int)) then
            ((gmk [.l ca167] (((x0.getD x2.toNat da114).2.2.2.2).1, y5)).bind fun y6 =>
              bif decide (0 ≤ x2) && decide (x2 < (x0.length : Int)) then
              (loopK (codeK tabE ft43 hint43 ord43 b43_rlrll n) (hint43 2) m (S43_2 x0 (IntKind.wrap .i64 (y6 + 1)) (IntKind.wrap .i64 (x2 + 1))) K)
              else (none))
            else (none))
          else (none))
        else (none))
      else (none))
    else (none))
  else (K (.exit 0) (X43_2_0 x1)) := by kernel_rfl
theorem ex43_2_0 (n : Nat) (x0 : Int) : (Ex.block 0 (sK tabE ft43 hint43 ord43 n b43_rr (retK tabE Tryz.f43 true [(false, [.i .i64])]))) (.exit 0) (X43_2_0 x0) =
  (some x0 : Option (Int)) := by kernel_rfl
def EL43 (x : CT.denL ca114) : Nat := elC ca114 x
theorem r43 : ∀ x y, okP e43.ps x → e43.φ x = some y → ∃ n, runF tabE ft43 hint43 ord43 Tryz.f43 e43.ps e43.rs e43.fr n x = some y := by
  rintro ⟨(a : (List (Unit × Unit × List (Unit) × (List (Unit × Unit × Unit × Unit × List (List (Unit)))) × (List (Unit × List (List (Unit)))) × Unit))), (k : Int)⟩ y ok h
  obtain ⟨h0, h1, rfl⟩ := gmk_some (cs := [.l ca114]) h
  have ha : a.length ≤ maxLen := ok.1.1
  refine ⟨a.length + 1, (en43 _ a k).trans ?_⟩
  refine mkLoop0 (cs := ca114) da114 (fun m x k i => loopK (codeK tabE ft43 hint43 ord43 b43_rlrll (a.length + 1)) (hint43 2) m (S43_2 x k i) (Ex.block 0 (sK tabE ft43 hint43 ord43 (a.length + 1) b43_rr (retK tabE Tryz.f43 true [(false, [.i .i64])])))) (fun k => (Ex.block 0 (sK tabE ft43 hint43 ord43 (a.length + 1) b43_rr (retK tabE Tryz.f43 true [(false, [.i .i64])]))) (.exit 0) (X43_2_0 k)) (fun k => ex43_2_0 _ k) (fun m (x0 : List (Unit × Unit × List (Unit) × (List (Unit × Unit × Unit × Unit × List (List (Unit)))) × (List (Unit × List (List (Unit)))) × Unit)) x1 x2 hi => ?_) (fun m (x0 : List (Unit × Unit × List (Unit) × (List (Unit × Unit × Unit × Unit × List (List (Unit)))) × (List (Unit × List (List (Unit)))) × Unit)) x1 x2 hi hx hlen hk hb => ?_) a ha k h0 h1
  · exact (st43_2 _ m _ x0 x1 x2).trans (bif_false (decide_eq_false hi) rfl)
  · replace hb : x1 + (((1 + (1 + (cntS [.l ca3] ((x0.getD x2.toNat da114).2.2.1) + (cntS [.l ca207] ((x0.getD x2.toNat da114).2.2.2.1) + (cntS [.l ca167] ((x0.getD x2.toNat da114).2.2.2.2.1) + 1))))) : Nat) : Int) ≤ 4611686018427387904 := hb
    exact (st43_2 _ m _ x0 x1 x2).trans (bif_true (decide_eq_true hx) (bif_true (in2 hi hx) (bif_true (in2 hi hx) (bif_true (in2 hi hx) (gmkB (cs := [.l ca3]) (c := cntS [.l ca3] (((x0.getD x2.toNat da114).2.2).1)) (kk := x1 + 1 + 1) rfl (by first | rfl | simp (disch := omega) only [wrap_succ]) (by omega) (by omega) (bif_true (in2 hi hx) (gmkB (cs := [.l ca207]) (c := cntS [.l ca207] (((x0.getD x2.toNat da114).2.2.2).1)) (kk := x1 + 1 + 1 + ((cntS [.l ca3] (((x0.getD x2.toNat da114).2.2).1) : Nat) : Int)) rfl (by first | rfl | simp (disch := omega) only [wrap_succ]) (by omega) (by omega) (bif_true (in2 hi hx) (gmkB (cs := [.l ca167]) (c := cntS [.l ca167] (((x0.getD x2.toNat da114).2.2.2.2).1)) (kk := x1 + 1 + 1 + ((cntS [.l ca3] (((x0.getD x2.toNat da114).2.2).1) : Nat) : Int) + ((cntS [.l ca207] (((x0.getD x2.toNat da114).2.2.2).1) : Nat) : Int)) rfl (by first | rfl | simp (disch := omega) only [wrap_succ]) (by omega) (by omega) (bif_true (in2 hi hx) (show loopK (codeK tabE ft43 hint43 ord43 b43_rlrll (a.length + 1)) (hint43 2) m (S43_2 x0 (IntKind.wrap .i64 ((x1 + 1 + 1 + ((cntS [.l ca3] (((x0.getD x2.toNat da114).2.2).1) : Nat) : Int) + ((cntS [.l ca207] (((x0.getD x2.toNat da114).2.2.2).1) : Nat) : Int) + ((cntS [.l ca167] (((x0.getD x2.toNat da114).2.2.2.2).1) : Nat) : Int)) + 1)) (IntKind.wrap .i64 (x2 + 1))) (Ex.block 0 (sK tabE ft43 hint43 ord43 (a.length + 1) b43_rr (retK tabE Tryz.f43 true [(false, [.i .i64])]))) = loopK (codeK tabE ft43 hint43 ord43 b43_rlrll (a.length + 1)) (hint43 2) m (S43_2 x0 (x1 + (((1 + (1 + (cntS [.l ca3] ((x0.getD x2.toNat da114).2.2.1) + (cntS [.l ca207] ((x0.getD x2.toNat da114).2.2.2.1) + (cntS [.l ca167] ((x0.getD x2.toNat da114).2.2.2.2.1) + 1))))) : Nat) : Int)) (x2 + 1)) (Ex.block 0 (sK tabE ft43 hint43 ord43 (a.length + 1) b43_rr (retK tabE Tryz.f43 true [(false, [.i .i64])]))) from by
    rw [show (IntKind.wrap .i64 ((x1 + 1 + 1 + ((cntS [.l ca3] (((x0.getD x2.toNat da114).2.2).1) : Nat) : Int) + ((cntS [.l ca207] (((x0.getD x2.toNat da114).2.2.2).1) : Nat) : Int) + ((cntS [.l ca167] (((x0.getD x2.toNat da114).2.2.2.2).1) : Nat) : Int)) + 1)) = x1 + 1 + 1 + ((cntS [.l ca3] (((x0.getD x2.toNat da114).2.2).1) : Nat) : Int) + ((cntS [.l ca207] (((x0.getD x2.toNat da114).2.2.2).1) : Nat) : Int) + ((cntS [.l ca167] (((x0.getD x2.toNat da114).2.2.2.2).1) : Nat) : Int) + 1 from by first | rfl | (simp (disch := omega) only [wrap_succ]), wrap_succ (i := x2) (by omega) (by omega)]
    all_goals rw [show x1 + 1 + 1 + ((cntS [.l ca3] (((x0.getD x2.toNat da114).2.2).1) : Nat) : Int) + ((cntS [.l ca207] (((x0.getD x2.toNat da114).2.2.2).1) : Nat) : Int) + ((cntS [.l ca167] (((x0.getD x2.toNat da114).2.2.2.2).1) : Nat) : Int) + 1 = x1 + (((1 + (1 + (cntS [.l ca3] ((x0.getD x2.toNat da114).2.2.1) + (cntS [.l ca207] ((x0.getD x2.toNat da114).2.2.2.1) + (cntS [.l ca167] ((x0.getD x2.toNat da114).2.2.2.2.1) + 1))))) : Nat) : Int) from by omega])))))))))))
theorem s43 : Sat Tryz.prog 43 e43 := sat_of_run Tryz.func43 (c := bodyOf Tryz.f43) (by kernel_rfl) (ne_of_dec (by kernel_rfl)) mixed tabE_ok (by kernel_rfl) (ftOf_cons s11 (ftOf_cons s87 (ftOf_cons s90 ftOf_nil))) (by kernel_rfl) (fun _ => by kernel_rfl) r43
/- 44 loop.example/g00513/laws.markHashKey -/
def e44 : FE := ⟨[(true, [.l ca3]), (false, [.i .i64])], [(false, [.i .i64])], true, true, gmk [.l ca3]⟩
noncomputable def ft44 : Nat → Option FE := ftOf [(11, e11)]
def hint44 : Nat → Hint := fun _ => {}
def ord44 : Nat → List Nat := fun _ => []
theorem en44 (n : Nat) (a0 : List (Unit)) (a1 : Int) : runF tabE ft44 hint44 ord44 Tryz.f44 [(true, [.l ca3]), (false, [.i .i64])] [(false, [.i .i64])] true n (a0, a1) =
  ((gmk [.l ca3] (a0, a1)).bind fun y1 =>
  some y1 : Option (Int)) := by kernel_rfl
theorem r44 : ∀ x y, okP e44.ps x → e44.φ x = some y → ∃ n, runF tabE ft44 hint44 ord44 Tryz.f44 e44.ps e44.rs e44.fr n x = some y := by
  rintro ⟨(a : List (Unit)), (k : Int)⟩ y ok h
  obtain ⟨h0, h1, rfl⟩ := gmk_some (cs := [.l ca3]) h
  replace h1 : k + ((cntS [.l ca3] a : Nat) : Int) ≤ 4611686018427387904 := h1
  exact ⟨0, (en44 0 a k).trans (gmkB (cs := [.l ca3]) (c := cntS [.l ca3] a) (kk := k) rfl (by first | rfl | simp (disch := omega) only [wrap_succ]) (by omega) (by omega) (congrArg some (show k + ((cntS [.l ca3] a : Nat) : Int) = k + ((cntS [.l ca3] a : Nat) : Int) from by omega)))⟩
theorem s44 : Sat Tryz.prog 44 e44 := sat_of_run Tryz.func44 (c := bodyOf Tryz.f44) (by kernel_rfl) (ne_of_dec (by kernel_rfl)) mixed tabE_ok (by kernel_rfl) (ftOf_cons s11 ftOf_nil) (by kernel_rfl) (fun _ => by kernel_rfl) r44
/- 45 loop.example/g00513/laws.markManifestS -/
def e45 : FE := ⟨[(false, [.l ca117]), (false, [.i .i64])], [(false, [.i .i64])], true, true, gmk [.l ca117]⟩
noncomputable def ft45 : Nat → Option FE := ftOf [(11, e11)]
def hint45 : Nat → Hint := fun
  | 2 => ⟨[0, 1, 5], [], [1], [], [], []⟩
  | _ => {}
def ord45 : Nat → List Nat := fun _ => []
noncomputable def b45_rlrll : Code := Code.l (Code.l (Code.r (Code.l (Code.r (bodyOf Tryz.f45)))))
noncomputable def b45_rr : Code := Code.r (Code.r (bodyOf Tryz.f45))
def S45_2 (x0 : List (Unit × Unit × Unit × Unit × List (Unit) × Unit)) (x1 : Int) (x2 : Int) : St := ⟨[.d false ca117 x0, .v (.int .i64 x1), .bad, .bad, .bad, .v (.int .i64 x2), .bad, .bad, .bad, .bad, .bad, .bad, .bad, .bad, .bad, .bad, .bad, .bad, .bad, .bad, .bad, .bad, .bad, .bad, .bad, .bad, .bad, .bad, .bad, .bad, .bad, .bad, .bad, .bad, .bad, .bad, .bad, .bad, .bad, .bad, .bad, .bad, .bad, .bad, .bad, .bad, .bad, .bad, .bad, .bad, .bad, .bad, .bad, .bad, .bad], []⟩
def X45_2_0 (x0 : Int) : St := ⟨[.bad, .v (.int .i64 x0), .bad, .bad, .bad, .bad, .bad, .bad, .bad, .bad, .bad, .bad, .bad, .bad, .bad, .bad, .bad, .bad, .bad, .bad, .bad, .bad, .bad, .bad, .bad, .bad, .bad, .bad, .bad, .bad, .bad, .bad, .bad, .bad, .bad, .bad, .bad, .bad, .bad, .bad, .bad, .bad, .bad, .bad, .bad, .bad, .bad, .bad, .bad, .bad, .bad, .bad, .bad, .bad, .bad], []⟩
theorem en45 (n : Nat) (a0 : (List (Unit × Unit × Unit × Unit × List (Unit) × Unit))) (a1 : Int) : runF tabE ft45 hint45 ord45 Tryz.f45 [(false, [.l ca117]), (false, [.i .i64])] [(false, [.i .i64])] true n (a0, a1) =
  (loopK (codeK tabE ft45 hint45 ord45 b45_rlrll n) (hint45 2) n (S45_2 a0 a1 0) (Ex.block 0 (sK tabE ft45 hint45 ord45 n b45_rr (retK tabE Tryz.f45 true [(false, [.i .i64])]))) : Option (Int)) := by kernel_rfl
theorem st45_2 {R : Type} (n m : Nat) (K : Ex → St → Option R) (x0 : List (Unit × Unit × Unit × Unit × List (Unit) × Unit)) (x1 : Int) (x2 : Int) : loopK (codeK tabE ft45 hint45 ord45 b45_rlrll n) (hint45 2) (m + 1) (S45_2 x0 x1 x2) K =
  bif (decide (x2 < (x0.length : Int))) then
  (bif decide (0 ≤ x2) && decide (x2 < (x0.length : Int)) then
    (bif decide (0 ≤ x2) && decide (x2 < (x0.length : Int)) then
      (bif decide (0 ≤ x2) && decide (x2 < (x0.length : Int)) then
        (bif decide (0 ≤ x2) && decide (x2 < (x0.length : Int)) then
          (bif decide (0 ≤ x2) && decide (x2 < (x0.length : Int)) then
            ((gmk [.l ca3] (((x0.getD x2.toNat da117).2.2.2.2).1, (IntKind.wrap .i64 ((IntKind.wrap .i64 ((IntKind.wrap .i64 ((IntKind.wrap .i64 (x1 + 1)) + 1)) + 1)) + 1)))).bind fun y2 =>
              bif decide (0 ≤ x2) && decide (x2 < (x0.length : Int)) then
              (loopK (codeK tabE ft45 hint45 ord45 b45_rlrll n) (hint45 2) m (S45_2 x0 (IntKind.wrap .i64 (y2 + 1)) (IntKind.wrap .i64 (x2 + 1))) K)
              else (none))
            else (none))
          else (none))
        else (none))
      else (none))
    else (none))
  else (K (.exit 0) (X45_2_0 x1)) := by kernel_rfl
theorem ex45_2_0 (n : Nat) (x0 : Int) : (Ex.block 0 (sK tabE ft45 hint45 ord45 n b45_rr (retK tabE Tryz.f45 true [(false, [.i .i64])]))) (.exit 0) (X45_2_0 x0) =
  (some x0 : Option (Int)) := by kernel_rfl
def EL45 (x : CT.denL ca117) : Nat := elC ca117 x
theorem r45 : ∀ x y, okP e45.ps x → e45.φ x = some y → ∃ n, runF tabE ft45 hint45 ord45 Tryz.f45 e45.ps e45.rs e45.fr n x = some y := by
  rintro ⟨(a : (List (Unit × Unit × Unit × Unit × List (Unit) × Unit))), (k : Int)⟩ y ok h
  obtain ⟨h0, h1, rfl⟩ := gmk_some (cs := [.l ca117]) h
  have ha : a.length ≤ maxLen := ok.1.1
  refine ⟨a.length + 1, (en45 _ a k).trans ?_⟩
  refine mkLoop0 (cs := ca117) da117 (fun m x k i => loopK (codeK tabE ft45 hint45 ord45 b45_rlrll (a.length + 1)) (hint45 2) m (S45_2 x k i) (Ex.block 0 (sK tabE ft45 hint45 ord45 (a.length + 1) b45_rr (retK tabE Tryz.f45 true [(false, [.i .i64])])))) (fun k => (Ex.block 0 (sK tabE ft45 hint45 ord45 (a.length + 1) b45_rr (retK tabE Tryz.f45 true [(false, [.i .i64])]))) (.exit 0) (X45_2_0 k)) (fun k => ex45_2_0 _ k) (fun m (x0 : List (Unit × Unit × Unit × Unit × List (Unit) × Unit)) x1 x2 hi => ?_) (fun m (x0 : List (Unit × Unit × Unit × Unit × List (Unit) × Unit)) x1 x2 hi hx hlen hk hb => ?_) a ha k h0 h1
  · exact (st45_2 _ m _ x0 x1 x2).trans (bif_false (decide_eq_false hi) rfl)
  · replace hb : x1 + (((1 + (1 + (1 + (1 + (cntS [.l ca3] ((x0.getD x2.toNat da117).2.2.2.2.1) + 1))))) : Nat) : Int) ≤ 4611686018427387904 := hb
    exact (st45_2 _ m _ x0 x1 x2).trans (bif_true (decide_eq_true hx) (bif_true (in2 hi hx) (bif_true (in2 hi hx) (bif_true (in2 hi hx) (bif_true (in2 hi hx) (bif_true (in2 hi hx) (gmkB (cs := [.l ca3]) (c := cntS [.l ca3] (((x0.getD x2.toNat da117).2.2.2.2).1)) (kk := x1 + 1 + 1 + 1 + 1) rfl (by first | rfl | simp (disch := omega) only [wrap_succ]) (by omega) (by omega) (bif_true (in2 hi hx) (show loopK (codeK tabE ft45 hint45 ord45 b45_rlrll (a.length + 1)) (hint45 2) m (S45_2 x0 (IntKind.wrap .i64 ((x1 + 1 + 1 + 1 + 1 + ((cntS [.l ca3] (((x0.getD x2.toNat da117).2.2.2.2).1) : Nat) : Int)) + 1)) (IntKind.wrap .i64 (x2 + 1))) (Ex.block 0 (sK tabE ft45 hint45 ord45 (a.length + 1) b45_rr (retK tabE Tryz.f45 true [(false, [.i .i64])]))) = loopK (codeK tabE ft45 hint45 ord45 b45_rlrll (a.length + 1)) (hint45 2) m (S45_2 x0 (x1 + (((1 + (1 + (1 + (1 + (cntS [.l ca3] ((x0.getD x2.toNat da117).2.2.2.2.1) + 1))))) : Nat) : Int)) (x2 + 1)) (Ex.block 0 (sK tabE ft45 hint45 ord45 (a.length + 1) b45_rr (retK tabE Tryz.f45 true [(false, [.i .i64])]))) from by
    rw [show (IntKind.wrap .i64 ((x1 + 1 + 1 + 1 + 1 + ((cntS [.l ca3] (((x0.getD x2.toNat da117).2.2.2.2).1) : Nat) : Int)) + 1)) = x1 + 1 + 1 + 1 + 1 + ((cntS [.l ca3] (((x0.getD x2.toNat da117).2.2.2.2).1) : Nat) : Int) + 1 from by first | rfl | (simp (disch := omega) only [wrap_succ]), wrap_succ (i := x2) (by omega) (by omega)]
    all_goals rw [show x1 + 1 + 1 + 1 + 1 + ((cntS [.l ca3] (((x0.getD x2.toNat da117).2.2.2.2).1) : Nat) : Int) + 1 = x1 + (((1 + (1 + (1 + (1 + (cntS [.l ca3] ((x0.getD x2.toNat da117).2.2.2.2.1) + 1))))) : Nat) : Int) from by omega])))))))))
theorem s45 : Sat Tryz.prog 45 e45 := sat_of_run Tryz.func45 (c := bodyOf Tryz.f45) (by kernel_rfl) (ne_of_dec (by kernel_rfl)) mixed tabE_ok (by kernel_rfl) (ftOf_cons s11 ftOf_nil) (by kernel_rfl) (fun _ => by kernel_rfl) r45
/- 91 loop.example/g00513/laws.markProofS -/
def e91 : FE := ⟨[(false, [.l ca176]), (false, [.i .i64])], [(false, [.i .i64])], true, true, gmk [.l ca176]⟩
def ft91 : Nat → Option FE := ftOf []
def hint91 : Nat → Hint := fun
  | 2 => ⟨[0, 1, 5], [], [1], [], [], []⟩
  | _ => {}
def ord91 : Nat → List Nat := fun _ => []
noncomputable def b91_rlrll : Code := Code.l (Code.l (Code.r (Code.l (Code.r (bodyOf Tryz.f91)))))
noncomputable def b91_rr : Code := Code.r (Code.r (bodyOf Tryz.f91))
def S91_2 (x0 : List (Unit × Unit × Unit)) (x1 : Int) (x2 : Int) : St := ⟨[.d false ca176 x0, .v (.int .i64 x1), .bad, .bad, .bad, .v (.int .i64 x2), .bad, .bad, .bad, .bad, .bad, .bad, .bad, .bad, .bad, .bad, .bad, .bad, .bad, .bad, .bad, .bad, .bad, .bad, .bad, .bad, .bad, .bad, .bad, .bad, .bad, .bad, .bad, .bad], []⟩
def X91_2_0 (x0 : Int) : St := ⟨[.bad, .v (.int .i64 x0), .bad, .bad, .bad, .bad, .bad, .bad, .bad, .bad, .bad, .bad, .bad, .bad, .bad, .bad, .bad, .bad, .bad, .bad, .bad, .bad, .bad, .bad, .bad, .bad, .bad, .bad, .bad, .bad, .bad, .bad, .bad, .bad], []⟩
theorem en91 (n : Nat) (a0 : (List (Unit × Unit × Unit))) (a1 : Int) : runF tabE ft91 hint91 ord91 Tryz.f91 [(false, [.l ca176]), (false, [.i .i64])] [(false, [.i .i64])] true n (a0, a1) =
  (loopK (codeK tabE ft91 hint91 ord91 b91_rlrll n) (hint91 2) n (S91_2 a0 a1 0) (Ex.block 0 (sK tabE ft91 hint91 ord91 n b91_rr (retK tabE Tryz.f91 true [(false, [.i .i64])]))) : Option (Int)) := by kernel_rfl
theorem st91_2 {R : Type} (n m : Nat) (K : Ex → St → Option R) (x0 : List (Unit × Unit × Unit)) (x1 : Int) (x2 : Int) : loopK (codeK tabE ft91 hint91 ord91 b91_rlrll n) (hint91 2) (m + 1) (S91_2 x0 x1 x2) K =
  bif (decide (x2 < (x0.length : Int))) then
  (bif decide (0 ≤ x2) && decide (x2 < (x0.length : Int)) then
    (bif decide (0 ≤ x2) && decide (x2 < (x0.length : Int)) then
      (bif decide (0 ≤ x2) && decide (x2 < (x0.length : Int)) then
        (loopK (codeK tabE ft91 hint91 ord91 b91_rlrll n) (hint91 2) m (S91_2 x0 (IntKind.wrap .i64 ((IntKind.wrap .i64 ((IntKind.wrap .i64 (x1 + 1)) + 1)) + 1)) (IntKind.wrap .i64 (x2 + 1))) K)
        else (none))
      else (none))
    else (none))
  else (K (.exit 0) (X91_2_0 x1)) := by kernel_rfl
theorem ex91_2_0 (n : Nat) (x0 : Int) : (Ex.block 0 (sK tabE ft91 hint91 ord91 n b91_rr (retK tabE Tryz.f91 true [(false, [.i .i64])]))) (.exit 0) (X91_2_0 x0) =
  (some x0 : Option (Int)) := by kernel_rfl
def EL91 (x : CT.denL ca176) : Nat := elC ca176 x
theorem r91 : ∀ x y, okP e91.ps x → e91.φ x = some y → ∃ n, runF tabE ft91 hint91 ord91 Tryz.f91 e91.ps e91.rs e91.fr n x = some y := by
  rintro ⟨(a : (List (Unit × Unit × Unit))), (k : Int)⟩ y ok h
  obtain ⟨h0, h1, rfl⟩ := gmk_some (cs := [.l ca176]) h
  have ha : a.length ≤ maxLen := ok.1.1
  refine ⟨a.length + 1, (en91 _ a k).trans ?_⟩
  refine mkLoop0 (cs := ca176) da176 (fun m x k i => loopK (codeK tabE ft91 hint91 ord91 b91_rlrll (a.length + 1)) (hint91 2) m (S91_2 x k i) (Ex.block 0 (sK tabE ft91 hint91 ord91 (a.length + 1) b91_rr (retK tabE Tryz.f91 true [(false, [.i .i64])])))) (fun k => (Ex.block 0 (sK tabE ft91 hint91 ord91 (a.length + 1) b91_rr (retK tabE Tryz.f91 true [(false, [.i .i64])]))) (.exit 0) (X91_2_0 k)) (fun k => ex91_2_0 _ k) (fun m (x0 : List (Unit × Unit × Unit)) x1 x2 hi => ?_) (fun m (x0 : List (Unit × Unit × Unit)) x1 x2 hi hx hlen hk hb => ?_) a ha k h0 h1
  · exact (st91_2 _ m _ x0 x1 x2).trans (bif_false (decide_eq_false hi) rfl)
  · replace hb : x1 + (((1 + (1 + 1)) : Nat) : Int) ≤ 4611686018427387904 := hb
    exact (st91_2 _ m _ x0 x1 x2).trans (bif_true (decide_eq_true hx) (bif_true (in2 hi hx) (bif_true (in2 hi hx) (bif_true (in2 hi hx) (show loopK (codeK tabE ft91 hint91 ord91 b91_rlrll (a.length + 1)) (hint91 2) m (S91_2 x0 (IntKind.wrap .i64 ((IntKind.wrap .i64 ((IntKind.wrap .i64 (x1 + 1)) + 1)) + 1)) (IntKind.wrap .i64 (x2 + 1))) (Ex.block 0 (sK tabE ft91 hint91 ord91 (a.length + 1) b91_rr (retK tabE Tryz.f91 true [(false, [.i .i64])]))) = loopK (codeK tabE ft91 hint91 ord91 b91_rlrll (a.length + 1)) (hint91 2) m (S91_2 x0 (x1 + (((1 + (1 + 1)) : Nat) : Int)) (x2 + 1)) (Ex.block 0 (sK tabE ft91 hint91 ord91 (a.length + 1) b91_rr (retK tabE Tryz.f91 true [(false, [.i .i64])]))) from by
    rw [show (IntKind.wrap .i64 ((IntKind.wrap .i64 ((IntKind.wrap .i64 (x1 + 1)) + 1)) + 1)) = x1 + 1 + 1 + 1 from by first | rfl | (simp (disch := omega) only [wrap_succ]), wrap_succ (i := x2) (by omega) (by omega)]
    all_goals rw [show x1 + 1 + 1 + 1 = x1 + (((1 + (1 + 1)) : Nat) : Int) from by omega])))))
theorem s91 : Sat Tryz.prog 91 e91 := sat_of_run Tryz.func91 (c := bodyOf Tryz.f91) (by kernel_rfl) (ne_of_dec (by kernel_rfl)) mixed tabE_ok (by kernel_rfl) ftOf_nil (by kernel_rfl) (fun _ => by kernel_rfl) r91
/- 46 loop.example/g00513/laws.markLedger -/
def e46 : FE := ⟨[(true, [.l ca176]), (false, [.i .i64])], [(false, [.i .i64])], true, true, gmk [.l ca176]⟩
noncomputable def ft46 : Nat → Option FE := ftOf [(91, e91)]
def hint46 : Nat → Hint := fun _ => {}
def ord46 : Nat → List Nat := fun _ => []
theorem en46 (n : Nat) (a0 : (List (Unit × Unit × Unit))) (a1 : Int) : runF tabE ft46 hint46 ord46 Tryz.f46 [(true, [.l ca176]), (false, [.i .i64])] [(false, [.i .i64])] true n (a0, a1) =
  ((gmk [.l ca176] (a0, a1)).bind fun y1 =>
  some y1 : Option (Int)) := by kernel_rfl
theorem r46 : ∀ x y, okP e46.ps x → e46.φ x = some y → ∃ n, runF tabE ft46 hint46 ord46 Tryz.f46 e46.ps e46.rs e46.fr n x = some y := by
  rintro ⟨(a : (List (Unit × Unit × Unit))), (k : Int)⟩ y ok h
  obtain ⟨h0, h1, rfl⟩ := gmk_some (cs := [.l ca176]) h
  replace h1 : k + ((cntS [.l ca176] a : Nat) : Int) ≤ 4611686018427387904 := h1
  exact ⟨0, (en46 0 a k).trans (gmkB (cs := [.l ca176]) (c := cntS [.l ca176] a) (kk := k) rfl (by first | rfl | simp (disch := omega) only [wrap_succ]) (by omega) (by omega) (congrArg some (show k + ((cntS [.l ca176] a : Nat) : Int) = k + ((cntS [.l ca176] a : Nat) : Int) from by omega)))⟩
theorem s46 : Sat Tryz.prog 46 e46 := sat_of_run Tryz.func46 (c := bodyOf Tryz.f46) (by kernel_rfl) (ne_of_dec (by kernel_rfl)) mixed tabE_ok (by kernel_rfl) (ftOf_cons s91 ftOf_nil) (by kernel_rfl) (fun _ => by kernel_rfl) r46
/- 10 loop.example/g00513/laws.markWorld -/
def e10 : FE := ⟨[(true, [.any .i64, .l ca176, .l ca167, .any .i64, .any .i64, .any .i64, .any .i64, .l ca171, .l ca176, .any .i64, .l ca110, .l ca114, .l ca3, .l ca3, .l ca117, .l ca176, .any .i64, .any .i64, .any .i64]), (false, [.i .i64])], [(false, [.i .i64])], true, true, gmk [.any .i64, .l ca176, .l ca167, .any .i64, .any .i64, .any .i64, .any .i64, .l ca171, .l ca176, .any .i64, .l ca110, .l ca114, .l ca3, .l ca3, .l ca117, .l ca176, .any .i64, .any .i64, .any .i64]⟩
noncomputable def ft10 : Nat → Option FE := ftOf [(11, e11), (40, e40), (41, e41), (42, e42), (43, e43), (44, e44), (45, e45), (46, e46)]
def hint10 : Nat → Hint := fun _ => {}
def ord10 : Nat → List Nat := fun _ => []
theorem en10 (n : Nat) (a0 : Unit × (List (Unit × Unit × Unit)) × (List (Unit × List (List (Unit)))) × Unit × Unit × Unit × Unit × (List (Unit × Unit × Unit × (List (Unit × List (Unit) × List (Unit))) × Unit)) × (List (Unit × Unit × Unit)) × Unit × (List (Unit × (List (Unit × Unit × Unit × (List (Unit × List (Unit) × List (Unit))) × Unit)))) × (List (Unit × Unit × List (Unit) × (List (Unit × Unit × Unit × Unit × List (List (Unit)))) × (List (Unit × List (List (Unit)))) × Unit)) × List (Unit) × List (Unit) × (List (Unit × Unit × Unit × Unit × List (Unit) × Unit)) × (List (Unit × Unit × Unit)) × Unit × Unit × Unit) (a1 : Int) : runF tabE ft10 hint10 ord10 Tryz.f10 [(true, [.any .i64, .l ca176, .l ca167, .any .i64, .any .i64, .any .i64, .any .i64, .l ca171, .l ca176, .any .i64, .l ca110, .l ca114, .l ca3, .l ca3, .l ca117, .l ca176, .any .i64, .any .i64, .any .i64]), (false, [.i .i64])] [(false, [.i .i64])] true n (a0, a1) =
  ((gmk [.any .i64, .l ca176] (((), a0.2.1), a1)).bind fun y1 =>
  (gmk [.l ca167, .any .i64, .any .i64, .any .i64, .any .i64, .l ca171, .l ca176, .any .i64] ((a0.2.2.1, (), (), (), (), a0.2.2.2.2.2.2.2.1, a0.2.2.2.2.2.2.2.2.1, ()), y1)).bind fun y2 =>
  (gmk [.l ca110] (a0.2.2.2.2.2.2.2.2.2.2.1, y2)).bind fun y3 =>
  (gmk [.l ca114] (a0.2.2.2.2.2.2.2.2.2.2.2.1, y3)).bind fun y4 =>
  (gmk [.l ca3] (a0.2.2.2.2.2.2.2.2.2.2.2.2.1, y4)).bind fun y5 =>
  (gmk [.l ca3] (a0.2.2.2.2.2.2.2.2.2.2.2.2.2.1, y5)).bind fun y6 =>
  (gmk [.l ca117] (a0.2.2.2.2.2.2.2.2.2.2.2.2.2.2.1, y6)).bind fun y7 =>
  (gmk [.l ca176] (a0.2.2.2.2.2.2.2.2.2.2.2.2.2.2.2.1, y7)).bind fun y8 =>
  some y8 : Option (Int)) := by kernel_rfl
theorem r10 : ∀ x y, okP e10.ps x → e10.φ x = some y → ∃ n, runF tabE ft10 hint10 ord10 Tryz.f10 e10.ps e10.rs e10.fr n x = some y := by
  rintro ⟨(a : Unit × (List (Unit × Unit × Unit)) × (List (Unit × List (List (Unit)))) × Unit × Unit × Unit × Unit × (List (Unit × Unit × Unit × (List (Unit × List (Unit) × List (Unit))) × Unit)) × (List (Unit × Unit × Unit)) × Unit × (List (Unit × (List (Unit × Unit × Unit × (List (Unit × List (Unit) × List (Unit))) × Unit)))) × (List (Unit × Unit × List (Unit) × (List (Unit × Unit × Unit × Unit × List (List (Unit)))) × (List (Unit × List (List (Unit)))) × Unit)) × List (Unit) × List (Unit) × (List (Unit × Unit × Unit × Unit × List (Unit) × Unit)) × (List (Unit × Unit × Unit)) × Unit × Unit × Unit), (k : Int)⟩ y ok h
  obtain ⟨h0, h1, rfl⟩ := gmk_some (cs := [.any .i64, .l ca176, .l ca167, .any .i64, .any .i64, .any .i64, .any .i64, .l ca171, .l ca176, .any .i64, .l ca110, .l ca114, .l ca3, .l ca3, .l ca117, .l ca176, .any .i64, .any .i64, .any .i64]) h
  replace h1 : k + (((cntS [.l ca176] a.2.1 + (cntS [.l ca167] a.2.2.1 + (cntS [.l ca171] a.2.2.2.2.2.2.2.1 + (cntS [.l ca176] a.2.2.2.2.2.2.2.2.1 + (cntS [.l ca110] a.2.2.2.2.2.2.2.2.2.2.1 + (cntS [.l ca114] a.2.2.2.2.2.2.2.2.2.2.2.1 + (cntS [.l ca3] a.2.2.2.2.2.2.2.2.2.2.2.2.1 + (cntS [.l ca3] a.2.2.2.2.2.2.2.2.2.2.2.2.2.1 + (cntS [.l ca117] a.2.2.2.2.2.2.2.2.2.2.2.2.2.2.1 + (cntS [.l ca176] a.2.2.2.2.2.2.2.2.2.2.2.2.2.2.2.1 + 0)))))))))) : Nat) : Int) ≤ 4611686018427387904 := h1
  exact ⟨0, (en10 0 a k).trans (gmkB (cs := [.any .i64, .l ca176]) (c := cntS [.l ca176] a.2.1) (kk := k) rfl (by first | rfl | simp (disch := omega) only [wrap_succ]) (by omega) (by omega) (gmkB (cs := [.l ca167, .any .i64, .any .i64, .any .i64, .any .i64, .l ca171, .l ca176, .any .i64]) (c := (cntS [.l ca167] a.2.2.1 + (cntS [.l ca171] a.2.2.2.2.2.2.2.1 + (cntS [.l ca176] a.2.2.2.2.2.2.2.2.1 + 0)))) (kk := k + ((cntS [.l ca176] a.2.1 : Nat) : Int)) rfl (by first | rfl | simp (disch := omega) only [wrap_succ]) (by omega) (by omega) (gmkB (cs := [.l ca110]) (c := cntS [.l ca110] a.2.2.2.2.2.2.2.2.2.2.1) (kk := k + ((cntS [.l ca176] a.2.1 : Nat) : Int) + (((cntS [.l ca167] a.2.2.1 + (cntS [.l ca171] a.2.2.2.2.2.2.2.1 + (cntS [.l ca176] a.2.2.2.2.2.2.2.2.1 + 0))) : Nat) : Int)) rfl (by first | rfl | simp (disch := omega) only [wrap_succ]) (by omega) (by omega) (gmkB (cs := [.l ca114]) (c := cntS [.l ca114] a.2.2.2.2.2.2.2.2.2.2.2.1) (kk := k + ((cntS [.l ca176] a.2.1 : Nat) : Int) + (((cntS [.l ca167] a.2.2.1 + (cntS [.l ca171] a.2.2.2.2.2.2.2.1 + (cntS [.l ca176] a.2.2.2.2.2.2.2.2.1 + 0))) : Nat) : Int) + ((cntS [.l ca110] a.2.2.2.2.2.2.2.2.2.2.1 : Nat) : Int)) rfl (by first | rfl | simp (disch := omega) only [wrap_succ]) (by omega) (by omega) (gmkB (cs := [.l ca3]) (c := cntS [.l ca3] a.2.2.2.2.2.2.2.2.2.2.2.2.1) (kk := k + ((cntS [.l ca176] a.2.1 : Nat) : Int) + (((cntS [.l ca167] a.2.2.1 + (cntS [.l ca171] a.2.2.2.2.2.2.2.1 + (cntS [.l ca176] a.2.2.2.2.2.2.2.2.1 + 0))) : Nat) : Int) + ((cntS [.l ca110] a.2.2.2.2.2.2.2.2.2.2.1 : Nat) : Int) + ((cntS [.l ca114] a.2.2.2.2.2.2.2.2.2.2.2.1 : Nat) : Int)) rfl (by first | rfl | simp (disch := omega) only [wrap_succ]) (by omega) (by omega) (gmkB (cs := [.l ca3]) (c := cntS [.l ca3] a.2.2.2.2.2.2.2.2.2.2.2.2.2.1) (kk := k + ((cntS [.l ca176] a.2.1 : Nat) : Int) + (((cntS [.l ca167] a.2.2.1 + (cntS [.l ca171] a.2.2.2.2.2.2.2.1 + (cntS [.l ca176] a.2.2.2.2.2.2.2.2.1 + 0))) : Nat) : Int) + ((cntS [.l ca110] a.2.2.2.2.2.2.2.2.2.2.1 : Nat) : Int) + ((cntS [.l ca114] a.2.2.2.2.2.2.2.2.2.2.2.1 : Nat) : Int) + ((cntS [.l ca3] a.2.2.2.2.2.2.2.2.2.2.2.2.1 : Nat) : Int)) rfl (by first | rfl | simp (disch := omega) only [wrap_succ]) (by omega) (by omega) (gmkB (cs := [.l ca117]) (c := cntS [.l ca117] a.2.2.2.2.2.2.2.2.2.2.2.2.2.2.1) (kk := k + ((cntS [.l ca176] a.2.1 : Nat) : Int) + (((cntS [.l ca167] a.2.2.1 + (cntS [.l ca171] a.2.2.2.2.2.2.2.1 + (cntS [.l ca176] a.2.2.2.2.2.2.2.2.1 + 0))) : Nat) : Int) + ((cntS [.l ca110] a.2.2.2.2.2.2.2.2.2.2.1 : Nat) : Int) + ((cntS [.l ca114] a.2.2.2.2.2.2.2.2.2.2.2.1 : Nat) : Int) + ((cntS [.l ca3] a.2.2.2.2.2.2.2.2.2.2.2.2.1 : Nat) : Int) + ((cntS [.l ca3] a.2.2.2.2.2.2.2.2.2.2.2.2.2.1 : Nat) : Int)) rfl (by first | rfl | simp (disch := omega) only [wrap_succ]) (by omega) (by omega) (gmkB (cs := [.l ca176]) (c := cntS [.l ca176] a.2.2.2.2.2.2.2.2.2.2.2.2.2.2.2.1) (kk := k + ((cntS [.l ca176] a.2.1 : Nat) : Int) + (((cntS [.l ca167] a.2.2.1 + (cntS [.l ca171] a.2.2.2.2.2.2.2.1 + (cntS [.l ca176] a.2.2.2.2.2.2.2.2.1 + 0))) : Nat) : Int) + ((cntS [.l ca110] a.2.2.2.2.2.2.2.2.2.2.1 : Nat) : Int) + ((cntS [.l ca114] a.2.2.2.2.2.2.2.2.2.2.2.1 : Nat) : Int) + ((cntS [.l ca3] a.2.2.2.2.2.2.2.2.2.2.2.2.1 : Nat) : Int) + ((cntS [.l ca3] a.2.2.2.2.2.2.2.2.2.2.2.2.2.1 : Nat) : Int) + ((cntS [.l ca117] a.2.2.2.2.2.2.2.2.2.2.2.2.2.2.1 : Nat) : Int)) rfl (by first | rfl | simp (disch := omega) only [wrap_succ]) (by omega) (by omega) (congrArg some (show k + ((cntS [.l ca176] a.2.1 : Nat) : Int) + (((cntS [.l ca167] a.2.2.1 + (cntS [.l ca171] a.2.2.2.2.2.2.2.1 + (cntS [.l ca176] a.2.2.2.2.2.2.2.2.1 + 0))) : Nat) : Int) + ((cntS [.l ca110] a.2.2.2.2.2.2.2.2.2.2.1 : Nat) : Int) + ((cntS [.l ca114] a.2.2.2.2.2.2.2.2.2.2.2.1 : Nat) : Int) + ((cntS [.l ca3] a.2.2.2.2.2.2.2.2.2.2.2.2.1 : Nat) : Int) + ((cntS [.l ca3] a.2.2.2.2.2.2.2.2.2.2.2.2.2.1 : Nat) : Int) + ((cntS [.l ca117] a.2.2.2.2.2.2.2.2.2.2.2.2.2.2.1 : Nat) : Int) + ((cntS [.l ca176] a.2.2.2.2.2.2.2.2.2.2.2.2.2.2.2.1 : Nat) : Int) = k + (((cntS [.l ca176] a.2.1 + (cntS [.l ca167] a.2.2.1 + (cntS [.l ca171] a.2.2.2.2.2.2.2.1 + (cntS [.l ca176] a.2.2.2.2.2.2.2.2.1 + (cntS [.l ca110] a.2.2.2.2.2.2.2.2.2.2.1 + (cntS [.l ca114] a.2.2.2.2.2.2.2.2.2.2.2.1 + (cntS [.l ca3] a.2.2.2.2.2.2.2.2.2.2.2.2.1 + (cntS [.l ca3] a.2.2.2.2.2.2.2.2.2.2.2.2.2.1 + (cntS [.l ca117] a.2.2.2.2.2.2.2.2.2.2.2.2.2.2.1 + (cntS [.l ca176] a.2.2.2.2.2.2.2.2.2.2.2.2.2.2.2.1 + 0)))))))))) : Nat) : Int) from by omega))))))))))⟩
theorem s10 : Sat Tryz.prog 10 e10 := sat_of_run Tryz.func10 (c := bodyOf Tryz.f10) (by kernel_rfl) (ne_of_dec (by kernel_rfl)) mixed tabE_ok (by kernel_rfl) (ftOf_cons s11 (ftOf_cons s40 (ftOf_cons s41 (ftOf_cons s42 (ftOf_cons s43 (ftOf_cons s44 (ftOf_cons s45 (ftOf_cons s46 ftOf_nil)))))))) (by kernel_rfl) (fun _ => by kernel_rfl) r10
end Go.Proofs.Ai
