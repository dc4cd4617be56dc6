/- A part of the proof that the law FnExactHonestReach returns true: contracts of the functions that it calls, or the plain facts behind them; each holds for every input that its premises name. -/
import Derived.Test.YtjeedadfhoiedaaGreatA5
import Derived.Test.YtjeedadfhoiedaaGreatB7
import Derived.KernelRfl
set_option linter.unusedVariables false
namespace Go.Proofs.Ai
open Go.RowKit
/- 47 loop.example/g00513/laws.szEdgeS -/
def e47 : FE := ⟨[(false, [.l c176]), (false, [.i .i64])], [(false, [.i .i64])], true, false, gsz [.l c176]⟩
def ft47 : Nat → Option FE := ftOf []
def hint47 : Nat → Hint := fun _ => {}
def ord47 : Nat → List Nat := fun _ => []
theorem en47 (n : Nat) (a0 : (List (Int × Int × Int))) (a1 : Int) : runF tab ft47 hint47 ord47 Tryz.f47 [(false, [.l c176]), (false, [.i .i64])] [(false, [.i .i64])] true n (a0, a1) =
  (bif (decide ((IntKind.wrap .i64 (a1 - (a0.length : Int))) < 0)) then
  (some (-1))
  else (some (IntKind.wrap .i64 (a1 - (a0.length : Int)))) : Option (Int)) := by kernel_rfl
theorem r47 : ∀ x y, okP e47.ps x → e47.φ x = some y → ∃ n, runF tab ft47 hint47 ord47 Tryz.f47 e47.ps e47.rs e47.fr n x = some y := by
  rintro ⟨a, l⟩ y ok h
  obtain ⟨h0, h1, rfl⟩ := gsz_some (cs := [.l c176]) h
  exact ⟨0, (en47 0 a l).trans (szFlat (cs := c176) (β := Unit) h0 h1 ok.1.1 (fun _ => rfl))⟩
theorem s47 : Sat Tryz.prog 47 e47 := sat_of_run Tryz.func47 (c := bodyOf Tryz.f47) (by kernel_rfl) (ne_of_dec (by kernel_rfl)) mixed tab_ok (by kernel_rfl) ftOf_nil (by kernel_rfl) (fun h => (Bool.false_ne_true h).elim) r47
/- 13 loop.example/g00513/laws.szGraph -/
def e13 : FE := ⟨[(true, [.i .i64, .l c176]), (false, [.i .i64])], [(false, [.i .i64])], true, false, gsz [.i .i64, .l c176]⟩
noncomputable def ft13 : Nat → Option FE := ftOf [(47, e47)]
def hint13 : Nat → Hint := fun _ => {}
def ord13 : Nat → List Nat := fun _ => []
theorem en13 (n : Nat) (a0 : Int × (List (Int × Int × Int))) (a1 : Int) : runF tab ft13 hint13 ord13 Tryz.f13 [(true, [.i .i64, .l c176]), (false, [.i .i64])] [(false, [.i .i64])] true n (a0, a1) =
  ((gsz [.l c176] (a0.2, a1)).bind fun y1 =>
  bif (decide (y1 < 0)) then
  (some (-1))
  else (some y1) : Option (Int)) := by kernel_rfl
theorem r13 : ∀ x y, okP e13.ps x → e13.φ x = some y → ∃ n, runF tab ft13 hint13 ord13 Tryz.f13 e13.ps e13.rs e13.fr n x = some y := by
  rintro ⟨a, l⟩ y ok h
  obtain ⟨h0, h1, rfl⟩ := gsz_some (cs := [.i .i64, .l c176]) h
  refine ⟨0, (en13 0 a l).trans ?_⟩
  exact (szSeq (β := Unit) h0 h1 fun l h0 h1 => szEnd h0).trans (congrArg (fun c : Nat => some (szR c l)) (show (costL [.l c176] a.2 + 0) = (0 + costL [.l c176] a.2) from by omega))
theorem s13 : Sat Tryz.prog 13 e13 := sat_of_run Tryz.func13 (c := bodyOf Tryz.f13) (by kernel_rfl) (ne_of_dec (by kernel_rfl)) mixed tab_ok (by kernel_rfl) (ftOf_cons s47 ftOf_nil) (by kernel_rfl) (fun h => (Bool.false_ne_true h).elim) r13
/- 17 loop.example/g00513/laws.szIntS -/
def e17 : FE := ⟨[(false, [.l c3]), (false, [.i .i64])], [(false, [.i .i64])], true, false, gsz [.l c3]⟩
def ft17 : Nat → Option FE := ftOf []
def hint17 : Nat → Hint := fun _ => {}
def ord17 : Nat → List Nat := fun _ => []
theorem en17 (n : Nat) (a0 : List (Int)) (a1 : Int) : runF tab ft17 hint17 ord17 Tryz.f17 [(false, [.l c3]), (false, [.i .i64])] [(false, [.i .i64])] true n (a0, a1) =
  (bif (decide ((IntKind.wrap .i64 (a1 - (a0.length : Int))) < 0)) then
  (some (-1))
  else (some (IntKind.wrap .i64 (a1 - (a0.length : Int)))) : Option (Int)) := by kernel_rfl
theorem r17 : ∀ x y, okP e17.ps x → e17.φ x = some y → ∃ n, runF tab ft17 hint17 ord17 Tryz.f17 e17.ps e17.rs e17.fr n x = some y := by
  rintro ⟨a, l⟩ y ok h
  obtain ⟨h0, h1, rfl⟩ := gsz_some (cs := [.l c3]) h
  exact ⟨0, (en17 0 a l).trans (szFlat (cs := c3) (β := Unit) h0 h1 ok.1.1 (fun _ => rfl))⟩
theorem s17 : Sat Tryz.prog 17 e17 := sat_of_run Tryz.func17 (c := bodyOf Tryz.f17) (by kernel_rfl) (ne_of_dec (by kernel_rfl)) mixed tab_ok (by kernel_rfl) ftOf_nil (by kernel_rfl) (fun h => (Bool.false_ne_true h).elim) r17
/- 117 loop.example/g00513/laws.szIntSS -/
def e117 : FE := ⟨[(false, [.l c36]), (false, [.i .i64])], [(false, [.i .i64])], true, false, gsz [.l c36]⟩
noncomputable def ft117 : Nat → Option FE := ftOf [(17, e17)]
def hint117 : Nat → Hint := fun
  | 5 => ⟨[0, 1, 5], [], [1], [], [4], []⟩
  | _ => {}
def ord117 : Nat → List Nat := fun _ => []
noncomputable def b117_rrrlrll : Code := Code.l (Code.l (Code.r (Code.l (Code.r (Code.r (Code.r (bodyOf Tryz.f117)))))))
noncomputable def b117_rrrr : Code := Code.r (Code.r (Code.r (Code.r (bodyOf Tryz.f117))))
def S117_5 (x0 : List (List (Int))) (x1 : Int) (x2 : Int) : St := ⟨[.d false c36 x0, .v (.int .i64 x1), .bad, .bad, .bad, .v (.int .i64 x2), .bad, .bad, .bad, .bad, .bad, .bad, .bad, .bad, .bad, .bad, .bad, .bad, .bad, .bad, .bad, .bad, .bad, .bad, .bad, .bad, .bad], []⟩
def X117_5_r (x0 : Int) : St := ⟨[.bad, .bad, .bad, .bad, .v (.int .i64 x0), .bad, .bad, .bad, .bad, .bad, .bad, .bad, .bad, .bad, .bad, .bad, .bad, .bad, .bad, .bad, .bad, .bad, .bad, .bad, .bad, .bad, .bad], []⟩
def X117_5_0 (x0 : Int) : St := ⟨[.bad, .v (.int .i64 x0), .bad, .bad, .bad, .bad, .bad, .bad, .bad, .bad, .bad, .bad, .bad, .bad, .bad, .bad, .bad, .bad, .bad, .bad, .bad, .bad, .bad, .bad, .bad, .bad, .bad], []⟩
theorem en117 (n : Nat) (a0 : List (List (Int))) (a1 : Int) : runF tab ft117 hint117 ord117 Tryz.f117 [(false, [.l c36]), (false, [.i .i64])] [(false, [.i .i64])] true n (a0, a1) =
  (bif (decide ((IntKind.wrap .i64 (a1 - (a0.length : Int))) < 0)) then
  (some (-1))
  else (loopK (codeK tab ft117 hint117 ord117 b117_rrrlrll n) (hint117 5) n (S117_5 a0 (IntKind.wrap .i64 (a1 - (a0.length : Int))) 0) (Ex.block 0 (sK tab ft117 hint117 ord117 n b117_rrrr (retK tab Tryz.f117 true [(false, [.i .i64])])))) : Option (Int)) := by kernel_rfl
theorem st117_5 {R : Type} (n m : Nat) (K : Ex → St → Option R) (x0 : List (List (Int))) (x1 : Int) (x2 : Int) : loopK (codeK tab ft117 hint117 ord117 b117_rrrlrll n) (hint117 5) (m + 1) (S117_5 x0 x1 x2) K =
  bif (decide (x2 < (x0.length : Int))) then
  (bif decide (0 ≤ x2) && decide (x2 < (x0.length : Int)) then
    ((gsz [.l c3] ((x0.getD x2.toNat d36), x1)).bind fun y2 =>
      bif (decide (y2 < 0)) then
      (K .ret (X117_5_r (-1)))
      else (loopK (codeK tab ft117 hint117 ord117 b117_rrrlrll n) (hint117 5) m (S117_5 x0 y2 (IntKind.wrap .i64 (x2 + 1))) K))
    else (none))
  else (K (.exit 0) (X117_5_0 x1)) := by kernel_rfl
theorem ex117_5_r (n : Nat) (x0 : Int) : (Ex.block 0 (sK tab ft117 hint117 ord117 n b117_rrrr (retK tab Tryz.f117 true [(false, [.i .i64])]))) .ret (X117_5_r x0) =
  (some x0 : Option (Int)) := by kernel_rfl
theorem ex117_5_0 (n : Nat) (x0 : Int) : (Ex.block 0 (sK tab ft117 hint117 ord117 n b117_rrrr (retK tab Tryz.f117 true [(false, [.i .i64])]))) (.exit 0) (X117_5_0 x0) =
  (some x0 : Option (Int)) := by kernel_rfl
theorem r117 : ∀ x y, okP e117.ps x → e117.φ x = some y → ∃ n, runF tab ft117 hint117 ord117 Tryz.f117 e117.ps e117.rs e117.fr n x = some y := by
  rintro ⟨a, l⟩ y ok h
  obtain ⟨h0, h1, rfl⟩ := gsz_some (cs := [.l c36]) h
  refine ⟨a.length + 1, (en117 _ a l).trans (szNest (cs := c36) (T := fun l => loopK (codeK tab ft117 hint117 ord117 b117_rrrlrll (a.length + 1)) (hint117 5) (a.length + 1) (S117_5 a l 0) (Ex.block 0 (sK tab ft117 hint117 ord117 (a.length + 1) b117_rrrr (retK tab Tryz.f117 true [(false, [.i .i64])])))) h0 h1 ok.1.1 fun l g0 g1 hl => ?_)⟩
  exact szLoop0 (CT.dfltL c36) (fun m x l i => loopK (codeK tab ft117 hint117 ord117 b117_rrrlrll (a.length + 1)) (hint117 5) m (S117_5 x l i) (Ex.block 0 (sK tab ft117 hint117 ord117 (a.length + 1) b117_rrrr (retK tab Tryz.f117 true [(false, [.i .i64])])))) (fun l => (Ex.block 0 (sK tab ft117 hint117 ord117 (a.length + 1) b117_rrrr (retK tab Tryz.f117 true [(false, [.i .i64])]))) (.exit 0) (X117_5_0 l)) (fun r => (Ex.block 0 (sK tab ft117 hint117 ord117 (a.length + 1) b117_rrrr (retK tab Tryz.f117 true [(false, [.i .i64])]))) .ret (X117_5_r r)) (fun l => ex117_5_0 _ l) (ex117_5_r _ (-1)) (fun m x l i => st117_5 _ m _ x l i) a hl g0 g1
theorem s117 : Sat Tryz.prog 117 e117 := sat_of_run Tryz.func117 (c := bodyOf Tryz.f117) (by kernel_rfl) (ne_of_dec (by kernel_rfl)) mixed tab_ok (by kernel_rfl) (ftOf_cons s17 ftOf_nil) (by kernel_rfl) (fun h => (Bool.false_ne_true h).elim) r117
/- 92 loop.example/g00513/laws.szGeneration -/
def e92 : FE := ⟨[(true, [.i .i64, .l c36]), (false, [.i .i64])], [(false, [.i .i64])], true, false, gsz [.i .i64, .l c36]⟩
noncomputable def ft92 : Nat → Option FE := ftOf [(117, e117)]
def hint92 : Nat → Hint := fun _ => {}
def ord92 : Nat → List Nat := fun _ => []
theorem en92 (n : Nat) (a0 : Int × List (List (Int))) (a1 : Int) : runF tab ft92 hint92 ord92 Tryz.f92 [(true, [.i .i64, .l c36]), (false, [.i .i64])] [(false, [.i .i64])] true n (a0, a1) =
  ((gsz [.l c36] (a0.2, a1)).bind fun y1 =>
  bif (decide (y1 < 0)) then
  (some (-1))
  else (some y1) : Option (Int)) := by kernel_rfl
theorem r92 : ∀ x y, okP e92.ps x → e92.φ x = some y → ∃ n, runF tab ft92 hint92 ord92 Tryz.f92 e92.ps e92.rs e92.fr n x = some y := by
  rintro ⟨a, l⟩ y ok h
  obtain ⟨h0, h1, rfl⟩ := gsz_some (cs := [.i .i64, .l c36]) h
  refine ⟨0, (en92 0 a l).trans ?_⟩
  exact (szSeq (β := Unit) h0 h1 fun l h0 h1 => szEnd h0).trans (congrArg (fun c : Nat => some (szR c l)) (show (costL [.l c36] a.2 + 0) = (0 + costL [.l c36] a.2) from by omega))
theorem s92 : Sat Tryz.prog 92 e92 := sat_of_run Tryz.func92 (c := bodyOf Tryz.f92) (by kernel_rfl) (ne_of_dec (by kernel_rfl)) mixed tab_ok (by kernel_rfl) (ftOf_cons s117 ftOf_nil) (by kernel_rfl) (fun h => (Bool.false_ne_true h).elim) r92
/- 48 loop.example/g00513/laws.szGenerationS -/
def e48 : FE := ⟨[(false, [.l c167]), (false, [.i .i64])], [(false, [.i .i64])], true, false, gsz [.l c167]⟩
noncomputable def ft48 : Nat → Option FE := ftOf [(92, e92)]
def hint48 : Nat → Hint := fun
  | 5 => ⟨[0, 1, 5], [], [1], [], [4], []⟩
  | _ => {}
def ord48 : Nat → List Nat := fun _ => []
noncomputable def b48_rrrlrll : Code := Code.l (Code.l (Code.r (Code.l (Code.r (Code.r (Code.r (bodyOf Tryz.f48)))))))
noncomputable def b48_rrrr : Code := Code.r (Code.r (Code.r (Code.r (bodyOf Tryz.f48))))
def S48_5 (x0 : List (Int × List (List (Int)))) (x1 : Int) (x2 : Int) : St := ⟨[.d false c167 x0, .v (.int .i64 x1), .bad, .bad, .bad, .v (.int .i64 x2), .bad, .bad, .bad, .bad, .bad, .bad, .bad, .bad, .bad, .bad, .bad, .bad, .bad, .bad, .bad, .bad, .bad, .bad, .bad, .bad, .bad], []⟩
def X48_5_r (x0 : Int) : St := ⟨[.bad, .bad, .bad, .bad, .v (.int .i64 x0), .bad, .bad, .bad, .bad, .bad, .bad, .bad, .bad, .bad, .bad, .bad, .bad, .bad, .bad, .bad, .bad, .bad, .bad, .bad, .bad, .bad, .bad], []⟩
def X48_5_0 (x0 : Int) : St := ⟨[.bad, .v (.int .i64 x0), .bad, .bad, .bad, .bad, .bad, .bad, .bad, .bad, .bad, .bad, .bad, .bad, .bad, .bad, .bad, .bad, .bad, .bad, .bad, .bad, .bad, .bad, .bad, .bad, .bad], []⟩
theorem en48 (n : Nat) (a0 : (List (Int × List (List (Int))))) (a1 : Int) : runF tab ft48 hint48 ord48 Tryz.f48 [(false, [.l c167]), (false, [.i .i64])] [(false, [.i .i64])] true n (a0, a1) =
  (bif (decide ((IntKind.wrap .i64 (a1 - (a0.length : Int))) < 0)) then
  (some (-1))
  else (loopK (codeK tab ft48 hint48 ord48 b48_rrrlrll n) (hint48 5) n (S48_5 a0 (IntKind.wrap .i64 (a1 - (a0.length : Int))) 0) (Ex.block 0 (sK tab ft48 hint48 ord48 n b48_rrrr (retK tab Tryz.f48 true [(false, [.i .i64])])))) : Option (Int)) := by kernel_rfl
theorem st48_5 {R : Type} (n m : Nat) (K : Ex → St → Option R) (x0 : List (Int × List (List (Int)))) (x1 : Int) (x2 : Int) : loopK (codeK tab ft48 hint48 ord48 b48_rrrlrll n) (hint48 5) (m + 1) (S48_5 x0 x1 x2) K =
  bif (decide (x2 < (x0.length : Int))) then
  (bif decide (0 ≤ x2) && decide (x2 < (x0.length : Int)) then
    ((gsz [.i .i64, .l c36] ((x0.getD x2.toNat d167), x1)).bind fun y2 =>
      bif (decide (y2 < 0)) then
      (K .ret (X48_5_r (-1)))
      else (loopK (codeK tab ft48 hint48 ord48 b48_rrrlrll n) (hint48 5) m (S48_5 x0 y2 (IntKind.wrap .i64 (x2 + 1))) K))
    else (none))
  else (K (.exit 0) (X48_5_0 x1)) := by kernel_rfl
theorem ex48_5_r (n : Nat) (x0 : Int) : (Ex.block 0 (sK tab ft48 hint48 ord48 n b48_rrrr (retK tab Tryz.f48 true [(false, [.i .i64])]))) .ret (X48_5_r x0) =
  (some x0 : Option (Int)) := by kernel_rfl
theorem ex48_5_0 (n : Nat) (x0 : Int) : (Ex.block 0 (sK tab ft48 hint48 ord48 n b48_rrrr (retK tab Tryz.f48 true [(false, [.i .i64])]))) (.exit 0) (X48_5_0 x0) =
  (some x0 : Option (Int)) := by kernel_rfl
theorem r48 : ∀ x y, okP e48.ps x → e48.φ x = some y → ∃ n, runF tab ft48 hint48 ord48 Tryz.f48 e48.ps e48.rs e48.fr n x = some y := by
  rintro ⟨a, l⟩ y ok h
  obtain ⟨h0, h1, rfl⟩ := gsz_some (cs := [.l c167]) h
  refine ⟨a.length + 1, (en48 _ a l).trans (szNest (cs := c167) (T := fun l => loopK (codeK tab ft48 hint48 ord48 b48_rrrlrll (a.length + 1)) (hint48 5) (a.length + 1) (S48_5 a l 0) (Ex.block 0 (sK tab ft48 hint48 ord48 (a.length + 1) b48_rrrr (retK tab Tryz.f48 true [(false, [.i .i64])])))) h0 h1 ok.1.1 fun l g0 g1 hl => ?_)⟩
  exact szLoop0 (CT.dfltL c167) (fun m x l i => loopK (codeK tab ft48 hint48 ord48 b48_rrrlrll (a.length + 1)) (hint48 5) m (S48_5 x l i) (Ex.block 0 (sK tab ft48 hint48 ord48 (a.length + 1) b48_rrrr (retK tab Tryz.f48 true [(false, [.i .i64])])))) (fun l => (Ex.block 0 (sK tab ft48 hint48 ord48 (a.length + 1) b48_rrrr (retK tab Tryz.f48 true [(false, [.i .i64])]))) (.exit 0) (X48_5_0 l)) (fun r => (Ex.block 0 (sK tab ft48 hint48 ord48 (a.length + 1) b48_rrrr (retK tab Tryz.f48 true [(false, [.i .i64])]))) .ret (X48_5_r r)) (fun l => ex48_5_0 _ l) (ex48_5_r _ (-1)) (fun m x l i => st48_5 _ m _ x l i) a hl g0 g1
theorem s48 : Sat Tryz.prog 48 e48 := sat_of_run Tryz.func48 (c := bodyOf Tryz.f48) (by kernel_rfl) (ne_of_dec (by kernel_rfl)) mixed tab_ok (by kernel_rfl) (ftOf_cons s92 ftOf_nil) (by kernel_rfl) (fun h => (Bool.false_ne_true h).elim) r48
/- 134 loop.example/g00513/laws.szCodedPacket -/
def e134 : FE := ⟨[(true, [.i .i64, .l c3, .l c3]), (false, [.i .i64])], [(false, [.i .i64])], true, false, gsz [.i .i64, .l c3, .l c3]⟩
noncomputable def ft134 : Nat → Option FE := ftOf [(17, e17)]
def hint134 : Nat → Hint := fun _ => {}
def ord134 : Nat → List Nat := fun _ => []
theorem en134 (n : Nat) (a0 : Int × List (Int) × List (Int)) (a1 : Int) : runF tab ft134 hint134 ord134 Tryz.f134 [(true, [.i .i64, .l c3, .l c3]), (false, [.i .i64])] [(false, [.i .i64])] true n (a0, a1) =
  ((gsz [.l c3] (a0.2.1, a1)).bind fun y1 =>
  bif (decide (y1 < 0)) then
  (some (-1))
  else ((gsz [.l c3] (a0.2.2, y1)).bind fun y2 =>
    bif (decide (y2 < 0)) then
    (some (-1))
    else (some y2)) : Option (Int)) := by kernel_rfl
theorem r134 : ∀ x y, okP e134.ps x → e134.φ x = some y → ∃ n, runF tab ft134 hint134 ord134 Tryz.f134 e134.ps e134.rs e134.fr n x = some y := by
  rintro ⟨a, l⟩ y ok h
  obtain ⟨h0, h1, rfl⟩ := gsz_some (cs := [.i .i64, .l c3, .l c3]) h
  refine ⟨0, (en134 0 a l).trans ?_⟩
  exact (szSeq (β := Unit) h0 h1 fun l h0 h1 => szSeq (β := Unit) h0 h1 fun l h0 h1 => szEnd h0).trans (congrArg (fun c : Nat => some (szR c l)) (show (costL [.l c3] a.2.1 + (costL [.l c3] a.2.2 + 0)) = (0 + (costL [.l c3] a.2.1 + costL [.l c3] a.2.2)) from by omega))
theorem s134 : Sat Tryz.prog 134 e134 := sat_of_run Tryz.func134 (c := bodyOf Tryz.f134) (by kernel_rfl) (ne_of_dec (by kernel_rfl)) mixed tab_ok (by kernel_rfl) (ftOf_cons s17 ftOf_nil) (by kernel_rfl) (fun h => (Bool.false_ne_true h).elim) r134
/- 118 loop.example/g00513/laws.szCodedPacketS -/
def e118 : FE := ⟨[(false, [.l c228]), (false, [.i .i64])], [(false, [.i .i64])], true, false, gsz [.l c228]⟩
noncomputable def ft118 : Nat → Option FE := ftOf [(134, e134)]
def hint118 : Nat → Hint := fun
  | 5 => ⟨[0, 1, 5], [], [1], [], [4], []⟩
  | _ => {}
def ord118 : Nat → List Nat := fun _ => []
noncomputable def b118_rrrlrll : Code := Code.l (Code.l (Code.r (Code.l (Code.r (Code.r (Code.r (bodyOf Tryz.f118)))))))
noncomputable def b118_rrrr : Code := Code.r (Code.r (Code.r (Code.r (bodyOf Tryz.f118))))
def S118_5 (x0 : List (Int × List (Int) × List (Int))) (x1 : Int) (x2 : Int) : St := ⟨[.d false c228 x0, .v (.int .i64 x1), .bad, .bad, .bad, .v (.int .i64 x2), .bad, .bad, .bad, .bad, .bad, .bad, .bad, .bad, .bad, .bad, .bad, .bad, .bad, .bad, .bad, .bad, .bad, .bad, .bad, .bad, .bad], []⟩
def X118_5_r (x0 : Int) : St := ⟨[.bad, .bad, .bad, .bad, .v (.int .i64 x0), .bad, .bad, .bad, .bad, .bad, .bad, .bad, .bad, .bad, .bad, .bad, .bad, .bad, .bad, .bad, .bad, .bad, .bad, .bad, .bad, .bad, .bad], []⟩
def X118_5_0 (x0 : Int) : St := ⟨[.bad, .v (.int .i64 x0), .bad, .bad, .bad, .bad, .bad, .bad, .bad, .bad, .bad, .bad, .bad, .bad, .bad, .bad, .bad, .bad, .bad, .bad, .bad, .bad, .bad, .bad, .bad, .bad, .bad], []⟩
theorem en118 (n : Nat) (a0 : (List (Int × List (Int) × List (Int)))) (a1 : Int) : runF tab ft118 hint118 ord118 Tryz.f118 [(false, [.l c228]), (false, [.i .i64])] [(false, [.i .i64])] true n (a0, a1) =
  (bif (decide ((IntKind.wrap .i64 (a1 - (a0.length : Int))) < 0)) then
  (some (-1))
  else (loopK (codeK tab ft118 hint118 ord118 b118_rrrlrll n) (hint118 5) n (S118_5 a0 (IntKind.wrap .i64 (a1 - (a0.length : Int))) 0) (Ex.block 0 (sK tab ft118 hint118 ord118 n b118_rrrr (retK tab Tryz.f118 true [(false, [.i .i64])])))) : Option (Int)) := by kernel_rfl
theorem st118_5 {R : Type} (n m : Nat) (K : Ex → St → Option R) (x0 : List (Int × List (Int) × List (Int))) (x1 : Int) (x2 : Int) : loopK (codeK tab ft118 hint118 ord118 b118_rrrlrll n) (hint118 5) (m + 1) (S118_5 x0 x1 x2) K =
  bif (decide (x2 < (x0.length : Int))) then
  (bif decide (0 ≤ x2) && decide (x2 < (x0.length : Int)) then
    ((gsz [.i .i64, .l c3, .l c3] ((x0.getD x2.toNat d228), x1)).bind fun y2 =>
      bif (decide (y2 < 0)) then
      (K .ret (X118_5_r (-1)))
      else (loopK (codeK tab ft118 hint118 ord118 b118_rrrlrll n) (hint118 5) m (S118_5 x0 y2 (IntKind.wrap .i64 (x2 + 1))) K))
    else (none))
  else (K (.exit 0) (X118_5_0 x1)) := by kernel_rfl
theorem ex118_5_r (n : Nat) (x0 : Int) : (Ex.block 0 (sK tab ft118 hint118 ord118 n b118_rrrr (retK tab Tryz.f118 true [(false, [.i .i64])]))) .ret (X118_5_r x0) =
  (some x0 : Option (Int)) := by kernel_rfl
theorem ex118_5_0 (n : Nat) (x0 : Int) : (Ex.block 0 (sK tab ft118 hint118 ord118 n b118_rrrr (retK tab Tryz.f118 true [(false, [.i .i64])]))) (.exit 0) (X118_5_0 x0) =
  (some x0 : Option (Int)) := by kernel_rfl
theorem r118 : ∀ x y, okP e118.ps x → e118.φ x = some y → ∃ n, runF tab ft118 hint118 ord118 Tryz.f118 e118.ps e118.rs e118.fr n x = some y := by
  rintro ⟨a, l⟩ y ok h
  obtain ⟨h0, h1, rfl⟩ := gsz_some (cs := [.l c228]) h
  refine ⟨a.length + 1, (en118 _ a l).trans (szNest (cs := c228) (T := fun l => loopK (codeK tab ft118 hint118 ord118 b118_rrrlrll (a.length + 1)) (hint118 5) (a.length + 1) (S118_5 a l 0) (Ex.block 0 (sK tab ft118 hint118 ord118 (a.length + 1) b118_rrrr (retK tab Tryz.f118 true [(false, [.i .i64])])))) h0 h1 ok.1.1 fun l g0 g1 hl => ?_)⟩
  exact szLoop0 (CT.dfltL c228) (fun m x l i => loopK (codeK tab ft118 hint118 ord118 b118_rrrlrll (a.length + 1)) (hint118 5) m (S118_5 x l i) (Ex.block 0 (sK tab ft118 hint118 ord118 (a.length + 1) b118_rrrr (retK tab Tryz.f118 true [(false, [.i .i64])])))) (fun l => (Ex.block 0 (sK tab ft118 hint118 ord118 (a.length + 1) b118_rrrr (retK tab Tryz.f118 true [(false, [.i .i64])]))) (.exit 0) (X118_5_0 l)) (fun r => (Ex.block 0 (sK tab ft118 hint118 ord118 (a.length + 1) b118_rrrr (retK tab Tryz.f118 true [(false, [.i .i64])]))) .ret (X118_5_r r)) (fun l => ex118_5_0 _ l) (ex118_5_r _ (-1)) (fun m x l i => st118_5 _ m _ x l i) a hl g0 g1
theorem s118 : Sat Tryz.prog 118 e118 := sat_of_run Tryz.func118 (c := bodyOf Tryz.f118) (by kernel_rfl) (ne_of_dec (by kernel_rfl)) mixed tab_ok (by kernel_rfl) (ftOf_cons s134 ftOf_nil) (by kernel_rfl) (fun h => (Bool.false_ne_true h).elim) r118
/- 93 loop.example/g00513/laws.szRecoder -/
def e93 : FE := ⟨[(true, [.i .i64, .i .i64, .i .i64, .l c228, .i .i64]), (false, [.i .i64])], [(false, [.i .i64])], true, false, gsz [.i .i64, .i .i64, .i .i64, .l c228, .i .i64]⟩
noncomputable def ft93 : Nat → Option FE := ftOf [(118, e118)]
def hint93 : Nat → Hint := fun _ => {}
def ord93 : Nat → List Nat := fun _ => []
theorem en93 (n : Nat) (a0 : Int × Int × Int × (List (Int × List (Int) × List (Int))) × Int) (a1 : Int) : runF tab ft93 hint93 ord93 Tryz.f93 [(true, [.i .i64, .i .i64, .i .i64, .l c228, .i .i64]), (false, [.i .i64])] [(false, [.i .i64])] true n (a0, a1) =
  ((gsz [.l c228] (a0.2.2.2.1, a1)).bind fun y1 =>
  bif (decide (y1 < 0)) then
  (some (-1))
  else (some y1) : Option (Int)) := by kernel_rfl
theorem r93 : ∀ x y, okP e93.ps x → e93.φ x = some y → ∃ n, runF tab ft93 hint93 ord93 Tryz.f93 e93.ps e93.rs e93.fr n x = some y := by
  rintro ⟨a, l⟩ y ok h
  obtain ⟨h0, h1, rfl⟩ := gsz_some (cs := [.i .i64, .i .i64, .i .i64, .l c228, .i .i64]) h
  refine ⟨0, (en93 0 a l).trans ?_⟩
  exact (szSeq (β := Unit) h0 h1 fun l h0 h1 => szEnd h0).trans (congrArg (fun c : Nat => some (szR c l)) (show (costL [.l c228] a.2.2.2.1 + 0) = (0 + (0 + (0 + (costL [.l c228] a.2.2.2.1 + 0)))) from by omega))
theorem s93 : Sat Tryz.prog 93 e93 := sat_of_run Tryz.func93 (c := bodyOf Tryz.f93) (by kernel_rfl) (ne_of_dec (by kernel_rfl)) mixed tab_ok (by kernel_rfl) (ftOf_cons s118 ftOf_nil) (by kernel_rfl) (fun h => (Bool.false_ne_true h).elim) r93
/- 49 loop.example/g00513/laws.szRecoderS -/
def e49 : FE := ⟨[(false, [.l c171]), (false, [.i .i64])], [(false, [.i .i64])], true, false, gsz [.l c171]⟩
noncomputable def ft49 : Nat → Option FE := ftOf [(93, e93)]
def hint49 : Nat → Hint := fun
  | 5 => ⟨[0, 1, 5], [], [1], [], [4], []⟩
  | _ => {}
def ord49 : Nat → List Nat := fun _ => []
noncomputable def b49_rrrlrll : Code := Code.l (Code.l (Code.r (Code.l (Code.r (Code.r (Code.r (bodyOf Tryz.f49)))))))
noncomputable def b49_rrrr : Code := Code.r (Code.r (Code.r (Code.r (bodyOf Tryz.f49))))
def S49_5 (x0 : List (Int × Int × Int × (List (Int × List (Int) × List (Int))) × Int)) (x1 : Int) (x2 : Int) : St := ⟨[.d false c171 x0, .v (.int .i64 x1), .bad, .bad, .bad, .v (.int .i64 x2), .bad, .bad, .bad, .bad, .bad, .bad, .bad, .bad, .bad, .bad, .bad, .bad, .bad, .bad, .bad, .bad, .bad, .bad, .bad, .bad, .bad], []⟩
def X49_5_r (x0 : Int) : St := ⟨[.bad, .bad, .bad, .bad, .v (.int .i64 x0), .bad, .bad, .bad, .bad, .bad, .bad, .bad, .bad, .bad, .bad, .bad, .bad, .bad, .bad, .bad, .bad, .bad, .bad, .bad, .bad, .bad, .bad], []⟩
def X49_5_0 (x0 : Int) : St := ⟨[.bad, .v (.int .i64 x0), .bad, .bad, .bad, .bad, .bad, .bad, .bad, .bad, .bad, .bad, .bad, .bad, .bad, .bad, .bad, .bad, .bad, .bad, .bad, .bad, .bad, .bad, .bad, .bad, .bad], []⟩
theorem en49 (n : Nat) (a0 : (List (Int × Int × Int × (List (Int × List (Int) × List (Int))) × Int))) (a1 : Int) : runF tab ft49 hint49 ord49 Tryz.f49 [(false, [.l c171]), (false, [.i .i64])] [(false, [.i .i64])] true n (a0, a1) =
  (bif (decide ((IntKind.wrap .i64 (a1 - (a0.length : Int))) < 0)) then
  (some (-1))
  else (loopK (codeK tab ft49 hint49 ord49 b49_rrrlrll n) (hint49 5) n (S49_5 a0 (IntKind.wrap .i64 (a1 - (a0.length : Int))) 0) (Ex.block 0 (sK tab ft49 hint49 ord49 n b49_rrrr (retK tab Tryz.f49 true [(false, [.i .i64])])))) : Option (Int)) := by kernel_rfl
theorem st49_5 {R : Type} (n m : Nat) (K : Ex → St → Option R) (x0 : List (Int × Int × Int × (List (Int × List (Int) × List (Int))) × Int)) (x1 : Int) (x2 : Int) : loopK (codeK tab ft49 hint49 ord49 b49_rrrlrll n) (hint49 5) (m + 1) (S49_5 x0 x1 x2) K =
  bif (decide (x2 < (x0.length : Int))) then
  (bif decide (0 ≤ x2) && decide (x2 < (x0.length : Int)) then
    ((gsz [.i .i64, .i .i64, .i .i64, .l c228, .i .i64] ((x0.getD x2.toNat d171), x1)).bind fun y2 =>
      bif (decide (y2 < 0)) then
      (K .ret (X49_5_r (-1)))
      else (loopK (codeK tab ft49 hint49 ord49 b49_rrrlrll n) (hint49 5) m (S49_5 x0 y2 (IntKind.wrap .i64 (x2 + 1))) K))
    else (none))
  else (K (.exit 0) (X49_5_0 x1)) := by kernel_rfl
theorem ex49_5_r (n : Nat) (x0 : Int) : (Ex.block 0 (sK tab ft49 hint49 ord49 n b49_rrrr (retK tab Tryz.f49 true [(false, [.i .i64])]))) .ret (X49_5_r x0) =
  (some x0 : Option (Int)) := by kernel_rfl
theorem ex49_5_0 (n : Nat) (x0 : Int) : (Ex.block 0 (sK tab ft49 hint49 ord49 n b49_rrrr (retK tab Tryz.f49 true [(false, [.i .i64])]))) (.exit 0) (X49_5_0 x0) =
  (some x0 : Option (Int)) := by kernel_rfl
theorem r49 : ∀ x y, okP e49.ps x → e49.φ x = some y → ∃ n, runF tab ft49 hint49 ord49 Tryz.f49 e49.ps e49.rs e49.fr n x = some y := by
  rintro ⟨a, l⟩ y ok h
  obtain ⟨h0, h1, rfl⟩ := gsz_some (cs := [.l c171]) h
  refine ⟨a.length + 1, (en49 _ a l).trans (szNest (cs := c171) (T := fun l => loopK (codeK tab ft49 hint49 ord49 b49_rrrlrll (a.length + 1)) (hint49 5) (a.length + 1) (S49_5 a l 0) (Ex.block 0 (sK tab ft49 hint49 ord49 (a.length + 1) b49_rrrr (retK tab Tryz.f49 true [(false, [.i .i64])])))) h0 h1 ok.1.1 fun l g0 g1 hl => ?_)⟩
  exact szLoop0 (CT.dfltL c171) (fun m x l i => loopK (codeK tab ft49 hint49 ord49 b49_rrrlrll (a.length + 1)) (hint49 5) m (S49_5 x l i) (Ex.block 0 (sK tab ft49 hint49 ord49 (a.length + 1) b49_rrrr (retK tab Tryz.f49 true [(false, [.i .i64])])))) (fun l => (Ex.block 0 (sK tab ft49 hint49 ord49 (a.length + 1) b49_rrrr (retK tab Tryz.f49 true [(false, [.i .i64])]))) (.exit 0) (X49_5_0 l)) (fun r => (Ex.block 0 (sK tab ft49 hint49 ord49 (a.length + 1) b49_rrrr (retK tab Tryz.f49 true [(false, [.i .i64])]))) .ret (X49_5_r r)) (fun l => ex49_5_0 _ l) (ex49_5_r _ (-1)) (fun m x l i => st49_5 _ m _ x l i) a hl g0 g1
theorem s49 : Sat Tryz.prog 49 e49 := sat_of_run Tryz.func49 (c := bodyOf Tryz.f49) (by kernel_rfl) (ne_of_dec (by kernel_rfl)) mixed tab_ok (by kernel_rfl) (ftOf_cons s93 ftOf_nil) (by kernel_rfl) (fun h => (Bool.false_ne_true h).elim) r49
/- 94 loop.example/g00513/laws.szFeedbackS -/
def e94 : FE := ⟨[(false, [.l c176]), (false, [.i .i64])], [(false, [.i .i64])], true, false, gsz [.l c176]⟩
def ft94 : Nat → Option FE := ftOf []
def hint94 : Nat → Hint := fun _ => {}
def ord94 : Nat → List Nat := fun _ => []
theorem en94 (n : Nat) (a0 : (List (Int × Int × Int))) (a1 : Int) : runF tab ft94 hint94 ord94 Tryz.f94 [(false, [.l c176]), (false, [.i .i64])] [(false, [.i .i64])] true n (a0, a1) =
  (bif (decide ((IntKind.wrap .i64 (a1 - (a0.length : Int))) < 0)) then
  (some (-1))
  else (some (IntKind.wrap .i64 (a1 - (a0.length : Int)))) : Option (Int)) := by kernel_rfl
theorem r94 : ∀ x y, okP e94.ps x → e94.φ x = some y → ∃ n, runF tab ft94 hint94 ord94 Tryz.f94 e94.ps e94.rs e94.fr n x = some y := by
  rintro ⟨a, l⟩ y ok h
  obtain ⟨h0, h1, rfl⟩ := gsz_some (cs := [.l c176]) h
  exact ⟨0, (en94 0 a l).trans (szFlat (cs := c176) (β := Unit) h0 h1 ok.1.1 (fun _ => rfl))⟩
theorem s94 : Sat Tryz.prog 94 e94 := sat_of_run Tryz.func94 (c := bodyOf Tryz.f94) (by kernel_rfl) (ne_of_dec (by kernel_rfl)) mixed tab_ok (by kernel_rfl) ftOf_nil (by kernel_rfl) (fun h => (Bool.false_ne_true h).elim) r94
/- 50 loop.example/g00513/laws.szFeedbackTable -/
def e50 : FE := ⟨[(true, [.l c176]), (false, [.i .i64])], [(false, [.i .i64])], true, false, gsz [.l c176]⟩
noncomputable def ft50 : Nat → Option FE := ftOf [(94, e94)]
def hint50 : Nat → Hint := fun _ => {}
def ord50 : Nat → List Nat := fun _ => []
theorem en50 (n : Nat) (a0 : (List (Int × Int × Int))) (a1 : Int) : runF tab ft50 hint50 ord50 Tryz.f50 [(true, [.l c176]), (false, [.i .i64])] [(false, [.i .i64])] true n (a0, a1) =
  ((gsz [.l c176] (a0, a1)).bind fun y1 =>
  bif (decide (y1 < 0)) then
  (some (-1))
  else (some y1) : Option (Int)) := by kernel_rfl
theorem r50 : ∀ x y, okP e50.ps x → e50.φ x = some y → ∃ n, runF tab ft50 hint50 ord50 Tryz.f50 e50.ps e50.rs e50.fr n x = some y := by
  rintro ⟨a, l⟩ y ok h
  obtain ⟨h0, h1, rfl⟩ := gsz_some (cs := [.l c176]) h
  refine ⟨0, (en50 0 a l).trans ?_⟩
  exact (szSeq (β := Unit) h0 h1 fun l h0 h1 => szEnd h0).trans (congrArg (fun c : Nat => some (szR c l)) (show (costL [.l c176] a + 0) = costL [.l c176] a from by omega))
theorem s50 : Sat Tryz.prog 50 e50 := sat_of_run Tryz.func50 (c := bodyOf Tryz.f50) (by kernel_rfl) (ne_of_dec (by kernel_rfl)) mixed tab_ok (by kernel_rfl) (ftOf_cons s94 ftOf_nil) (by kernel_rfl) (fun h => (Bool.false_ne_true h).elim) r50
/- 14 loop.example/g00513/laws.szSource -/
def e14 : FE := ⟨[(true, [.l c167, .i .i64, .i .i64, .i .i64, .i .i64, .l c171, .l c176, .i .i64]), (false, [.i .i64])], [(false, [.i .i64])], true, false, gsz [.l c167, .i .i64, .i .i64, .i .i64, .i .i64, .l c171, .l c176, .i .i64]⟩
noncomputable def ft14 : Nat → Option FE := ftOf [(48, e48), (49, e49), (50, e50)]
def hint14 : Nat → Hint := fun _ => {}
def ord14 : Nat → List Nat := fun _ => []
theorem en14 (n : Nat) (a0 : (List (Int × List (List (Int)))) × Int × Int × Int × Int × (List (Int × Int × Int × (List (Int × List (Int) × List (Int))) × Int)) × (List (Int × Int × Int)) × Int) (a1 : Int) : runF tab ft14 hint14 ord14 Tryz.f14 [(true, [.l c167, .i .i64, .i .i64, .i .i64, .i .i64, .l c171, .l c176, .i .i64]), (false, [.i .i64])] [(false, [.i .i64])] true n (a0, a1) =
  ((gsz [.l c167] (a0.1, a1)).bind fun y1 =>
  bif (decide (y1 < 0)) then
  (some (-1))
  else ((gsz [.l c171] (a0.2.2.2.2.2.1, y1)).bind fun y2 =>
    bif (decide (y2 < 0)) then
    (some (-1))
    else ((gsz [.l c176] (a0.2.2.2.2.2.2.1, y2)).bind fun y3 =>
      bif (decide (y3 < 0)) then
      (some (-1))
      else (some y3))) : Option (Int)) := by kernel_rfl
theorem r14 : ∀ x y, okP e14.ps x → e14.φ x = some y → ∃ n, runF tab ft14 hint14 ord14 Tryz.f14 e14.ps e14.rs e14.fr n x = some y := by
  rintro ⟨a, l⟩ y ok h
  obtain ⟨h0, h1, rfl⟩ := gsz_some (cs := [.l c167, .i .i64, .i .i64, .i .i64, .i .i64, .l c171, .l c176, .i .i64]) h
  refine ⟨0, (en14 0 a l).trans ?_⟩
  exact (szSeq (β := Unit) h0 h1 fun l h0 h1 => szSeq (β := Unit) h0 h1 fun l h0 h1 => szSeq (β := Unit) h0 h1 fun l h0 h1 => szEnd h0).trans (congrArg (fun c : Nat => some (szR c l)) (show (costL [.l c167] a.1 + (costL [.l c171] a.2.2.2.2.2.1 + (costL [.l c176] a.2.2.2.2.2.2.1 + 0))) = (costL [.l c167] a.1 + (0 + (0 + (0 + (0 + (costL [.l c171] a.2.2.2.2.2.1 + (costL [.l c176] a.2.2.2.2.2.2.1 + 0))))))) from by omega))
theorem s14 : Sat Tryz.prog 14 e14 := sat_of_run Tryz.func14 (c := bodyOf Tryz.f14) (by kernel_rfl) (ne_of_dec (by kernel_rfl)) mixed tab_ok (by kernel_rfl) (ftOf_cons s48 (ftOf_cons s49 (ftOf_cons s50 ftOf_nil))) (by kernel_rfl) (fun h => (Bool.false_ne_true h).elim) r14
/- 51 loop.example/g00513/laws.szRelay -/
def e51 : FE := ⟨[(true, [.i .i64, .l c171]), (false, [.i .i64])], [(false, [.i .i64])], true, false, gsz [.i .i64, .l c171]⟩
noncomputable def ft51 : Nat → Option FE := ftOf [(49, e49)]
def hint51 : Nat → Hint := fun _ => {}
def ord51 : Nat → List Nat := fun _ => []
theorem en51 (n : Nat) (a0 : Int × (List (Int × Int × Int × (List (Int × List (Int) × List (Int))) × Int))) (a1 : Int) : runF tab ft51 hint51 ord51 Tryz.f51 [(true, [.i .i64, .l c171]), (false, [.i .i64])] [(false, [.i .i64])] true n (a0, a1) =
  ((gsz [.l c171] (a0.2, a1)).bind fun y1 =>
  bif (decide (y1 < 0)) then
  (some (-1))
  else (some y1) : Option (Int)) := by kernel_rfl
theorem r51 : ∀ x y, okP e51.ps x → e51.φ x = some y → ∃ n, runF tab ft51 hint51 ord51 Tryz.f51 e51.ps e51.rs e51.fr n x = some y := by
  rintro ⟨a, l⟩ y ok h
  obtain ⟨h0, h1, rfl⟩ := gsz_some (cs := [.i .i64, .l c171]) h
  refine ⟨0, (en51 0 a l).trans ?_⟩
  exact (szSeq (β := Unit) h0 h1 fun l h0 h1 => szEnd h0).trans (congrArg (fun c : Nat => some (szR c l)) (show (costL [.l c171] a.2 + 0) = (0 + costL [.l c171] a.2) from by omega))
theorem s51 : Sat Tryz.prog 51 e51 := sat_of_run Tryz.func51 (c := bodyOf Tryz.f51) (by kernel_rfl) (ne_of_dec (by kernel_rfl)) mixed tab_ok (by kernel_rfl) (ftOf_cons s49 ftOf_nil) (by kernel_rfl) (fun h => (Bool.false_ne_true h).elim) r51
/- 15 loop.example/g00513/laws.szRelayS -/
def e15 : FE := ⟨[(false, [.l c110]), (false, [.i .i64])], [(false, [.i .i64])], true, false, gsz [.l c110]⟩
noncomputable def ft15 : Nat → Option FE := ftOf [(51, e51)]
def hint15 : Nat → Hint := fun
  | 5 => ⟨[0, 1, 5], [], [1], [], [4], []⟩
  | _ => {}
def ord15 : Nat → List Nat := fun _ => []
noncomputable def b15_rrrlrll : Code := Code.l (Code.l (Code.r (Code.l (Code.r (Code.r (Code.r (bodyOf Tryz.f15)))))))
noncomputable def b15_rrrr : Code := Code.r (Code.r (Code.r (Code.r (bodyOf Tryz.f15))))
def S15_5 (x0 : List (Int × (List (Int × Int × Int × (List (Int × List (Int) × List (Int))) × Int)))) (x1 : Int) (x2 : Int) : St := ⟨[.d false c110 x0, .v (.int .i64 x1), .bad, .bad, .bad, .v (.int .i64 x2), .bad, .bad, .bad, .bad, .bad, .bad, .bad, .bad, .bad, .bad, .bad, .bad, .bad, .bad, .bad, .bad, .bad, .bad, .bad, .bad, .bad], []⟩
def X15_5_r (x0 : Int) : St := ⟨[.bad, .bad, .bad, .bad, .v (.int .i64 x0), .bad, .bad, .bad, .bad, .bad, .bad, .bad, .bad, .bad, .bad, .bad, .bad, .bad, .bad, .bad, .bad, .bad, .bad, .bad, .bad, .bad, .bad], []⟩
def X15_5_0 (x0 : Int) : St := ⟨[.bad, .v (.int .i64 x0), .bad, .bad, .bad, .bad, .bad, .bad, .bad, .bad, .bad, .bad, .bad, .bad, .bad, .bad, .bad, .bad, .bad, .bad, .bad, .bad, .bad, .bad, .bad, .bad, .bad], []⟩
theorem en15 (n : Nat) (a0 : (List (Int × (List (Int × Int × Int × (List (Int × List (Int) × List (Int))) × Int))))) (a1 : Int) : runF tab ft15 hint15 ord15 Tryz.f15 [(false, [.l c110]), (false, [.i .i64])] [(false, [.i .i64])] true n (a0, a1) =
  (bif (decide ((IntKind.wrap .i64 (a1 - (a0.length : Int))) < 0)) then
  (some (-1))
  else (loopK (codeK tab ft15 hint15 ord15 b15_rrrlrll n) (hint15 5) n (S15_5 a0 (IntKind.wrap .i64 (a1 - (a0.length : Int))) 0) (Ex.block 0 (sK tab ft15 hint15 ord15 n b15_rrrr (retK tab Tryz.f15 true [(false, [.i .i64])])))) : Option (Int)) := by kernel_rfl
theorem st15_5 {R : Type} (n m : Nat) (K : Ex → St → Option R) (x0 : List (Int × (List (Int × Int × Int × (List (Int × List (Int) × List (Int))) × Int)))) (x1 : Int) (x2 : Int) : loopK (codeK tab ft15 hint15 ord15 b15_rrrlrll n) (hint15 5) (m + 1) (S15_5 x0 x1 x2) K =
  bif (decide (x2 < (x0.length : Int))) then
  (bif decide (0 ≤ x2) && decide (x2 < (x0.length : Int)) then
    ((gsz [.i .i64, .l c171] ((x0.getD x2.toNat d110), x1)).bind fun y2 =>
      bif (decide (y2 < 0)) then
      (K .ret (X15_5_r (-1)))
      else (loopK (codeK tab ft15 hint15 ord15 b15_rrrlrll n) (hint15 5) m (S15_5 x0 y2 (IntKind.wrap .i64 (x2 + 1))) K))
    else (none))
  else (K (.exit 0) (X15_5_0 x1)) := by kernel_rfl
theorem ex15_5_r (n : Nat) (x0 : Int) : (Ex.block 0 (sK tab ft15 hint15 ord15 n b15_rrrr (retK tab Tryz.f15 true [(false, [.i .i64])]))) .ret (X15_5_r x0) =
  (some x0 : Option (Int)) := by kernel_rfl
theorem ex15_5_0 (n : Nat) (x0 : Int) : (Ex.block 0 (sK tab ft15 hint15 ord15 n b15_rrrr (retK tab Tryz.f15 true [(false, [.i .i64])]))) (.exit 0) (X15_5_0 x0) =
  (some x0 : Option (Int)) := by kernel_rfl
theorem r15 : ∀ x y, okP e15.ps x → e15.φ x = some y → ∃ n, runF tab ft15 hint15 ord15 Tryz.f15 e15.ps e15.rs e15.fr n x = some y := by
  rintro ⟨a, l⟩ y ok h
  obtain ⟨h0, h1, rfl⟩ := gsz_some (cs := [.l c110]) h
  refine ⟨a.length + 1, (en15 _ a l).trans (szNest (cs := c110) (T := fun l => loopK (codeK tab ft15 hint15 ord15 b15_rrrlrll (a.length + 1)) (hint15 5) (a.length + 1) (S15_5 a l 0) (Ex.block 0 (sK tab ft15 hint15 ord15 (a.length + 1) b15_rrrr (retK tab Tryz.f15 true [(false, [.i .i64])])))) h0 h1 ok.1.1 fun l g0 g1 hl => ?_)⟩
  exact szLoop0 (CT.dfltL c110) (fun m x l i => loopK (codeK tab ft15 hint15 ord15 b15_rrrlrll (a.length + 1)) (hint15 5) m (S15_5 x l i) (Ex.block 0 (sK tab ft15 hint15 ord15 (a.length + 1) b15_rrrr (retK tab Tryz.f15 true [(false, [.i .i64])])))) (fun l => (Ex.block 0 (sK tab ft15 hint15 ord15 (a.length + 1) b15_rrrr (retK tab Tryz.f15 true [(false, [.i .i64])]))) (.exit 0) (X15_5_0 l)) (fun r => (Ex.block 0 (sK tab ft15 hint15 ord15 (a.length + 1) b15_rrrr (retK tab Tryz.f15 true [(false, [.i .i64])]))) .ret (X15_5_r r)) (fun l => ex15_5_0 _ l) (ex15_5_r _ (-1)) (fun m x l i => st15_5 _ m _ x l i) a hl g0 g1
theorem s15 : Sat Tryz.prog 15 e15 := sat_of_run Tryz.func15 (c := bodyOf Tryz.f15) (by kernel_rfl) (ne_of_dec (by kernel_rfl)) mixed tab_ok (by kernel_rfl) (ftOf_cons s51 ftOf_nil) (by kernel_rfl) (fun h => (Bool.false_ne_true h).elim) r15
/- 135 loop.example/g00513/laws.szBasis -/
def e135 : FE := ⟨[(true, [.i .i64, .l c36]), (false, [.i .i64])], [(false, [.i .i64])], true, false, gsz [.i .i64, .l c36]⟩
noncomputable def ft135 : Nat → Option FE := ftOf [(117, e117)]
def hint135 : Nat → Hint := fun _ => {}
def ord135 : Nat → List Nat := fun _ => []
theorem en135 (n : Nat) (a0 : Int × List (List (Int))) (a1 : Int) : runF tab ft135 hint135 ord135 Tryz.f135 [(true, [.i .i64, .l c36]), (false, [.i .i64])] [(false, [.i .i64])] true n (a0, a1) =
  ((gsz [.l c36] (a0.2, a1)).bind fun y1 =>
  bif (decide (y1 < 0)) then
  (some (-1))
  else (some y1) : Option (Int)) := by kernel_rfl
theorem r135 : ∀ x y, okP e135.ps x → e135.φ x = some y → ∃ n, runF tab ft135 hint135 ord135 Tryz.f135 e135.ps e135.rs e135.fr n x = some y := by
  rintro ⟨a, l⟩ y ok h
  obtain ⟨h0, h1, rfl⟩ := gsz_some (cs := [.i .i64, .l c36]) h
  refine ⟨0, (en135 0 a l).trans ?_⟩
  exact (szSeq (β := Unit) h0 h1 fun l h0 h1 => szEnd h0).trans (congrArg (fun c : Nat => some (szR c l)) (show (costL [.l c36] a.2 + 0) = (0 + costL [.l c36] a.2) from by omega))
theorem s135 : Sat Tryz.prog 135 e135 := sat_of_run Tryz.func135 (c := bodyOf Tryz.f135) (by kernel_rfl) (ne_of_dec (by kernel_rfl)) mixed tab_ok (by kernel_rfl) (ftOf_cons s117 ftOf_nil) (by kernel_rfl) (fun h => (Bool.false_ne_true h).elim) r135
/- 119 loop.example/g00513/laws.szDecoder -/
def e119 : FE := ⟨[(true, [.i .i64, .i .i64, .i .i64, .i .i64, .l c36]), (false, [.i .i64])], [(false, [.i .i64])], true, false, gsz [.i .i64, .i .i64, .i .i64, .i .i64, .l c36]⟩
noncomputable def ft119 : Nat → Option FE := ftOf [(135, e135)]
def hint119 : Nat → Hint := fun _ => {}
def ord119 : Nat → List Nat := fun _ => []
theorem en119 (n : Nat) (a0 : Int × Int × Int × Int × List (List (Int))) (a1 : Int) : runF tab ft119 hint119 ord119 Tryz.f119 [(true, [.i .i64, .i .i64, .i .i64, .i .i64, .l c36]), (false, [.i .i64])] [(false, [.i .i64])] true n (a0, a1) =
  ((gsz [.i .i64, .l c36] (a0.2.2.2, a1)).bind fun y1 =>
  bif (decide (y1 < 0)) then
  (some (-1))
  else (some y1) : Option (Int)) := by kernel_rfl
theorem r119 : ∀ x y, okP e119.ps x → e119.φ x = some y → ∃ n, runF tab ft119 hint119 ord119 Tryz.f119 e119.ps e119.rs e119.fr n x = some y := by
  rintro ⟨a, l⟩ y ok h
  obtain ⟨h0, h1, rfl⟩ := gsz_some (cs := [.i .i64, .i .i64, .i .i64, .i .i64, .l c36]) h
  refine ⟨0, (en119 0 a l).trans ?_⟩
  exact (szSeq (β := Unit) h0 h1 fun l h0 h1 => szEnd h0).trans (congrArg (fun c : Nat => some (szR c l)) (show ((0 + costL [.l c36] a.2.2.2.2) + 0) = (0 + (0 + (0 + (0 + costL [.l c36] a.2.2.2.2)))) from by omega))
theorem s119 : Sat Tryz.prog 119 e119 := sat_of_run Tryz.func119 (c := bodyOf Tryz.f119) (by kernel_rfl) (ne_of_dec (by kernel_rfl)) mixed tab_ok (by kernel_rfl) (ftOf_cons s135 ftOf_nil) (by kernel_rfl) (fun h => (Bool.false_ne_true h).elim) r119
/- 95 loop.example/g00513/laws.szDecoderS -/
def e95 : FE := ⟨[(false, [.l c207]), (false, [.i .i64])], [(false, [.i .i64])], true, false, gsz [.l c207]⟩
noncomputable def ft95 : Nat → Option FE := ftOf [(119, e119)]
def hint95 : Nat → Hint := fun
  | 5 => ⟨[0, 1, 5], [], [1], [], [4], []⟩
  | _ => {}
def ord95 : Nat → List Nat := fun _ => []
noncomputable def b95_rrrlrll : Code := Code.l (Code.l (Code.r (Code.l (Code.r (Code.r (Code.r (bodyOf Tryz.f95)))))))
noncomputable def b95_rrrr : Code := Code.r (Code.r (Code.r (Code.r (bodyOf Tryz.f95))))
def S95_5 (x0 : List (Int × Int × Int × Int × List (List (Int)))) (x1 : Int) (x2 : Int) : St := ⟨[.d false c207 x0, .v (.int .i64 x1), .bad, .bad, .bad, .v (.int .i64 x2), .bad, .bad, .bad, .bad, .bad, .bad, .bad, .bad, .bad, .bad, .bad, .bad, .bad, .bad, .bad, .bad, .bad, .bad, .bad, .bad, .bad], []⟩
def X95_5_r (x0 : Int) : St := ⟨[.bad, .bad, .bad, .bad, .v (.int .i64 x0), .bad, .bad, .bad, .bad, .bad, .bad, .bad, .bad, .bad, .bad, .bad, .bad, .bad, .bad, .bad, .bad, .bad, .bad, .bad, .bad, .bad, .bad], []⟩
def X95_5_0 (x0 : Int) : St := ⟨[.bad, .v (.int .i64 x0), .bad, .bad, .bad, .bad, .bad, .bad, .bad, .bad, .bad, .bad, .bad, .bad, .bad, .bad, .bad, .bad, .bad, .bad, .bad, .bad, .bad, .bad, .bad, .bad, .bad], []⟩
theorem en95 (n : Nat) (a0 : (List (Int × Int × Int × Int × List (List (Int))))) (a1 : Int) : runF tab ft95 hint95 ord95 Tryz.f95 [(false, [.l c207]), (false, [.i .i64])] [(false, [.i .i64])] true n (a0, a1) =
  (bif (decide ((IntKind.wrap .i64 (a1 - (a0.length : Int))) < 0)) then
  (some (-1))
  else (loopK (codeK tab ft95 hint95 ord95 b95_rrrlrll n) (hint95 5) n (S95_5 a0 (IntKind.wrap .i64 (a1 - (a0.length : Int))) 0) (Ex.block 0 (sK tab ft95 hint95 ord95 n b95_rrrr (retK tab Tryz.f95 true [(false, [.i .i64])])))) : Option (Int)) := by kernel_rfl
theorem st95_5 {R : Type} (n m : Nat) (K : Ex → St → Option R) (x0 : List (Int × Int × Int × Int × List (List (Int)))) (x1 : Int) (x2 : Int) : loopK (codeK tab ft95 hint95 ord95 b95_rrrlrll n) (hint95 5) (m + 1) (S95_5 x0 x1 x2) K =
  bif (decide (x2 < (x0.length : Int))) then
  (bif decide (0 ≤ x2) && decide (x2 < (x0.length : Int)) then
    ((gsz [.i .i64, .i .i64, .i .i64, .i .i64, .l c36] ((x0.getD x2.toNat d207), x1)).bind fun y2 =>
      bif (decide (y2 < 0)) then
      (K .ret (X95_5_r (-1)))
      else (loopK (codeK tab ft95 hint95 ord95 b95_rrrlrll n) (hint95 5) m (S95_5 x0 y2 (IntKind.wrap .i64 (x2 + 1))) K))
    else (none))
  else (K (.exit 0) (X95_5_0 x1)) := by kernel_rfl
theorem ex95_5_r (n : Nat) (x0 : Int) : (Ex.block 0 (sK tab ft95 hint95 ord95 n b95_rrrr (retK tab Tryz.f95 true [(false, [.i .i64])]))) .ret (X95_5_r x0) =
  (some x0 : Option (Int)) := by kernel_rfl
theorem ex95_5_0 (n : Nat) (x0 : Int) : (Ex.block 0 (sK tab ft95 hint95 ord95 n b95_rrrr (retK tab Tryz.f95 true [(false, [.i .i64])]))) (.exit 0) (X95_5_0 x0) =
  (some x0 : Option (Int)) := by kernel_rfl
theorem r95 : ∀ x y, okP e95.ps x → e95.φ x = some y → ∃ n, runF tab ft95 hint95 ord95 Tryz.f95 e95.ps e95.rs e95.fr n x = some y := by
  rintro ⟨a, l⟩ y ok h
  obtain ⟨h0, h1, rfl⟩ := gsz_some (cs := [.l c207]) h
  refine ⟨a.length + 1, (en95 _ a l).trans (szNest (cs := c207) (T := fun l => loopK (codeK tab ft95 hint95 ord95 b95_rrrlrll (a.length + 1)) (hint95 5) (a.length + 1) (S95_5 a l 0) (Ex.block 0 (sK tab ft95 hint95 ord95 (a.length + 1) b95_rrrr (retK tab Tryz.f95 true [(false, [.i .i64])])))) h0 h1 ok.1.1 fun l g0 g1 hl => ?_)⟩
  exact szLoop0 (CT.dfltL c207) (fun m x l i => loopK (codeK tab ft95 hint95 ord95 b95_rrrlrll (a.length + 1)) (hint95 5) m (S95_5 x l i) (Ex.block 0 (sK tab ft95 hint95 ord95 (a.length + 1) b95_rrrr (retK tab Tryz.f95 true [(false, [.i .i64])])))) (fun l => (Ex.block 0 (sK tab ft95 hint95 ord95 (a.length + 1) b95_rrrr (retK tab Tryz.f95 true [(false, [.i .i64])]))) (.exit 0) (X95_5_0 l)) (fun r => (Ex.block 0 (sK tab ft95 hint95 ord95 (a.length + 1) b95_rrrr (retK tab Tryz.f95 true [(false, [.i .i64])]))) .ret (X95_5_r r)) (fun l => ex95_5_0 _ l) (ex95_5_r _ (-1)) (fun m x l i => st95_5 _ m _ x l i) a hl g0 g1
theorem s95 : Sat Tryz.prog 95 e95 := sat_of_run Tryz.func95 (c := bodyOf Tryz.f95) (by kernel_rfl) (ne_of_dec (by kernel_rfl)) mixed tab_ok (by kernel_rfl) (ftOf_cons s119 ftOf_nil) (by kernel_rfl) (fun h => (Bool.false_ne_true h).elim) r95
/- 52 loop.example/g00513/laws.szSink -/
def e52 : FE := ⟨[(true, [.i .i64, .i .i64, .l c3, .l c207, .l c167, .i .i64]), (false, [.i .i64])], [(false, [.i .i64])], true, false, gsz [.i .i64, .i .i64, .l c3, .l c207, .l c167, .i .i64]⟩
noncomputable def ft52 : Nat → Option FE := ftOf [(17, e17), (48, e48), (95, e95)]
def hint52 : Nat → Hint := fun _ => {}
def ord52 : Nat → List Nat := fun _ => []
theorem en52 (n : Nat) (a0 : Int × Int × List (Int) × (List (Int × Int × Int × Int × List (List (Int)))) × (List (Int × List (List (Int)))) × Int) (a1 : Int) : runF tab ft52 hint52 ord52 Tryz.f52 [(true, [.i .i64, .i .i64, .l c3, .l c207, .l c167, .i .i64]), (false, [.i .i64])] [(false, [.i .i64])] true n (a0, a1) =
  ((gsz [.l c3] (a0.2.2.1, a1)).bind fun y1 =>
  bif (decide (y1 < 0)) then
  (some (-1))
  else ((gsz [.l c207] (a0.2.2.2.1, y1)).bind fun y2 =>
    bif (decide (y2 < 0)) then
    (some (-1))
    else ((gsz [.l c167] (a0.2.2.2.2.1, y2)).bind fun y3 =>
      bif (decide (y3 < 0)) then
      (some (-1))
      else (some y3))) : Option (Int)) := by kernel_rfl
theorem r52 : ∀ x y, okP e52.ps x → e52.φ x = some y → ∃ n, runF tab ft52 hint52 ord52 Tryz.f52 e52.ps e52.rs e52.fr n x = some y := by
  rintro ⟨a, l⟩ y ok h
  obtain ⟨h0, h1, rfl⟩ := gsz_some (cs := [.i .i64, .i .i64, .l c3, .l c207, .l c167, .i .i64]) h
  refine ⟨0, (en52 0 a l).trans ?_⟩
  exact (szSeq (β := Unit) h0 h1 fun l h0 h1 => szSeq (β := Unit) h0 h1 fun l h0 h1 => szSeq (β := Unit) h0 h1 fun l h0 h1 => szEnd h0).trans (congrArg (fun c : Nat => some (szR c l)) (show (costL [.l c3] a.2.2.1 + (costL [.l c207] a.2.2.2.1 + (costL [.l c167] a.2.2.2.2.1 + 0))) = (0 + (0 + (costL [.l c3] a.2.2.1 + (costL [.l c207] a.2.2.2.1 + (costL [.l c167] a.2.2.2.2.1 + 0))))) from by omega))
theorem s52 : Sat Tryz.prog 52 e52 := sat_of_run Tryz.func52 (c := bodyOf Tryz.f52) (by kernel_rfl) (ne_of_dec (by kernel_rfl)) mixed tab_ok (by kernel_rfl) (ftOf_cons s17 (ftOf_cons s48 (ftOf_cons s95 ftOf_nil))) (by kernel_rfl) (fun h => (Bool.false_ne_true h).elim) r52
/- 16 loop.example/g00513/laws.szSinkS -/
def e16 : FE := ⟨[(false, [.l c114]), (false, [.i .i64])], [(false, [.i .i64])], true, false, gsz [.l c114]⟩
noncomputable def ft16 : Nat → Option FE := ftOf [(52, e52)]
def hint16 : Nat → Hint := fun
  | 5 => ⟨[0, 1, 5], [], [1], [], [4], []⟩
  | _ => {}
def ord16 : Nat → List Nat := fun _ => []
noncomputable def b16_rrrlrll : Code := Code.l (Code.l (Code.r (Code.l (Code.r (Code.r (Code.r (bodyOf Tryz.f16)))))))
noncomputable def b16_rrrr : Code := Code.r (Code.r (Code.r (Code.r (bodyOf Tryz.f16))))
def S16_5 (x0 : List (Int × Int × List (Int) × (List (Int × Int × Int × Int × List (List (Int)))) × (List (Int × List (List (Int)))) × Int)) (x1 : Int) (x2 : Int) : St := ⟨[.d false c114 x0, .v (.int .i64 x1), .bad, .bad, .bad, .v (.int .i64 x2), .bad, .bad, .bad, .bad, .bad, .bad, .bad, .bad, .bad, .bad, .bad, .bad, .bad, .bad, .bad, .bad, .bad, .bad, .bad, .bad, .bad], []⟩
def X16_5_r (x0 : Int) : St := ⟨[.bad, .bad, .bad, .bad, .v (.int .i64 x0), .bad, .bad, .bad, .bad, .bad, .bad, .bad, .bad, .bad, .bad, .bad, .bad, .bad, .bad, .bad, .bad, .bad, .bad, .bad, .bad, .bad, .bad], []⟩
def X16_5_0 (x0 : Int) : St := ⟨[.bad, .v (.int .i64 x0), .bad, .bad, .bad, .bad, .bad, .bad, .bad, .bad, .bad, .bad, .bad, .bad, .bad, .bad, .bad, .bad, .bad, .bad, .bad, .bad, .bad, .bad, .bad, .bad, .bad], []⟩
theorem en16 (n : Nat) (a0 : (List (Int × Int × List (Int) × (List (Int × Int × Int × Int × List (List (Int)))) × (List (Int × List (List (Int)))) × Int))) (a1 : Int) : runF tab ft16 hint16 ord16 Tryz.f16 [(false, [.l c114]), (false, [.i .i64])] [(false, [.i .i64])] true n (a0, a1) =
  (bif (decide ((IntKind.wrap .i64 (a1 - (a0.length : Int))) < 0)) then
  (some (-1))
  else (loopK (codeK tab ft16 hint16 ord16 b16_rrrlrll n) (hint16 5) n (S16_5 a0 (IntKind.wrap .i64 (a1 - (a0.length : Int))) 0) (Ex.block 0 (sK tab ft16 hint16 ord16 n b16_rrrr (retK tab Tryz.f16 true [(false, [.i .i64])])))) : Option (Int)) := by kernel_rfl
theorem st16_5 {R : Type} (n m : Nat) (K : Ex → St → Option R) (x0 : List (Int × Int × List (Int) × (List (Int × Int × Int × Int × List (List (Int)))) × (List (Int × List (List (Int)))) × Int)) (x1 : Int) (x2 : Int) : loopK (codeK tab ft16 hint16 ord16 b16_rrrlrll n) (hint16 5) (m + 1) (S16_5 x0 x1 x2) K =
  bif (decide (x2 < (x0.length : Int))) then
  (bif decide (0 ≤ x2) && decide (x2 < (x0.length : Int)) then
    ((gsz [.i .i64, .i .i64, .l c3, .l c207, .l c167, .i .i64] ((x0.getD x2.toNat d114), x1)).bind fun y2 =>
      bif (decide (y2 < 0)) then
      (K .ret (X16_5_r (-1)))
      else (loopK (codeK tab ft16 hint16 ord16 b16_rrrlrll n) (hint16 5) m (S16_5 x0 y2 (IntKind.wrap .i64 (x2 + 1))) K))
    else (none))
  else (K (.exit 0) (X16_5_0 x1)) := by kernel_rfl
theorem ex16_5_r (n : Nat) (x0 : Int) : (Ex.block 0 (sK tab ft16 hint16 ord16 n b16_rrrr (retK tab Tryz.f16 true [(false, [.i .i64])]))) .ret (X16_5_r x0) =
  (some x0 : Option (Int)) := by kernel_rfl
theorem ex16_5_0 (n : Nat) (x0 : Int) : (Ex.block 0 (sK tab ft16 hint16 ord16 n b16_rrrr (retK tab Tryz.f16 true [(false, [.i .i64])]))) (.exit 0) (X16_5_0 x0) =
  (some x0 : Option (Int)) := by kernel_rfl
theorem r16 : ∀ x y, okP e16.ps x → e16.φ x = some y → ∃ n, runF tab ft16 hint16 ord16 Tryz.f16 e16.ps e16.rs e16.fr n x = some y := by
  rintro ⟨a, l⟩ y ok h
  obtain ⟨h0, h1, rfl⟩ := gsz_some (cs := [.l c114]) h
  refine ⟨a.length + 1, (en16 _ a l).trans (szNest (cs := c114) (T := fun l => loopK (codeK tab ft16 hint16 ord16 b16_rrrlrll (a.length + 1)) (hint16 5) (a.length + 1) (S16_5 a l 0) (Ex.block 0 (sK tab ft16 hint16 ord16 (a.length + 1) b16_rrrr (retK tab Tryz.f16 true [(false, [.i .i64])])))) h0 h1 ok.1.1 fun l g0 g1 hl => ?_)⟩
  exact szLoop0 (CT.dfltL c114) (fun m x l i => loopK (codeK tab ft16 hint16 ord16 b16_rrrlrll (a.length + 1)) (hint16 5) m (S16_5 x l i) (Ex.block 0 (sK tab ft16 hint16 ord16 (a.length + 1) b16_rrrr (retK tab Tryz.f16 true [(false, [.i .i64])])))) (fun l => (Ex.block 0 (sK tab ft16 hint16 ord16 (a.length + 1) b16_rrrr (retK tab Tryz.f16 true [(false, [.i .i64])]))) (.exit 0) (X16_5_0 l)) (fun r => (Ex.block 0 (sK tab ft16 hint16 ord16 (a.length + 1) b16_rrrr (retK tab Tryz.f16 true [(false, [.i .i64])]))) .ret (X16_5_r r)) (fun l => ex16_5_0 _ l) (ex16_5_r _ (-1)) (fun m x l i => st16_5 _ m _ x l i) a hl g0 g1
theorem s16 : Sat Tryz.prog 16 e16 := sat_of_run Tryz.func16 (c := bodyOf Tryz.f16) (by kernel_rfl) (ne_of_dec (by kernel_rfl)) mixed tab_ok (by kernel_rfl) (ftOf_cons s52 ftOf_nil) (by kernel_rfl) (fun h => (Bool.false_ne_true h).elim) r16
/- 18 loop.example/g00513/laws.szHashKey -/
def e18 : FE := ⟨[(true, [.l c3]), (false, [.i .i64])], [(false, [.i .i64])], true, false, gsz [.l c3]⟩
noncomputable def ft18 : Nat → Option FE := ftOf [(17, e17)]
def hint18 : Nat → Hint := fun _ => {}
def ord18 : Nat → List Nat := fun _ => []
theorem en18 (n : Nat) (a0 : List (Int)) (a1 : Int) : runF tab ft18 hint18 ord18 Tryz.f18 [(true, [.l c3]), (false, [.i .i64])] [(false, [.i .i64])] true n (a0, a1) =
  ((gsz [.l c3] (a0, a1)).bind fun y1 =>
  bif (decide (y1 < 0)) then
  (some (-1))
  else (some y1) : Option (Int)) := by kernel_rfl
theorem r18 : ∀ x y, okP e18.ps x → e18.φ x = some y → ∃ n, runF tab ft18 hint18 ord18 Tryz.f18 e18.ps e18.rs e18.fr n x = some y := by
  rintro ⟨a, l⟩ y ok h
  obtain ⟨h0, h1, rfl⟩ := gsz_some (cs := [.l c3]) h
  refine ⟨0, (en18 0 a l).trans ?_⟩
  exact (szSeq (β := Unit) h0 h1 fun l h0 h1 => szEnd h0).trans (congrArg (fun c : Nat => some (szR c l)) (show (costL [.l c3] a + 0) = costL [.l c3] a from by omega))
theorem s18 : Sat Tryz.prog 18 e18 := sat_of_run Tryz.func18 (c := bodyOf Tryz.f18) (by kernel_rfl) (ne_of_dec (by kernel_rfl)) mixed tab_ok (by kernel_rfl) (ftOf_cons s17 ftOf_nil) (by kernel_rfl) (fun h => (Bool.false_ne_true h).elim) r18
/- 53 loop.example/g00513/laws.szManifest -/
def e53 : FE := ⟨[(true, [.i .i64, .i .i64, .i .i64, .i .i64, .l c3, .i .i64]), (false, [.i .i64])], [(false, [.i .i64])], true, false, gsz [.i .i64, .i .i64, .i .i64, .i .i64, .l c3, .i .i64]⟩
noncomputable def ft53 : Nat → Option FE := ftOf [(17, e17)]
def hint53 : Nat → Hint := fun _ => {}
def ord53 : Nat → List Nat := fun _ => []
theorem en53 (n : Nat) (a0 : Int × Int × Int × Int × List (Int) × Int) (a1 : Int) : runF tab ft53 hint53 ord53 Tryz.f53 [(true, [.i .i64, .i .i64, .i .i64, .i .i64, .l c3, .i .i64]), (false, [.i .i64])] [(false, [.i .i64])] true n (a0, a1) =
  ((gsz [.l c3] (a0.2.2.2.2.1, a1)).bind fun y1 =>
  bif (decide (y1 < 0)) then
  (some (-1))
  else (some y1) : Option (Int)) := by kernel_rfl
theorem r53 : ∀ x y, okP e53.ps x → e53.φ x = some y → ∃ n, runF tab ft53 hint53 ord53 Tryz.f53 e53.ps e53.rs e53.fr n x = some y := by
  rintro ⟨a, l⟩ y ok h
  obtain ⟨h0, h1, rfl⟩ := gsz_some (cs := [.i .i64, .i .i64, .i .i64, .i .i64, .l c3, .i .i64]) h
  refine ⟨0, (en53 0 a l).trans ?_⟩
  exact (szSeq (β := Unit) h0 h1 fun l h0 h1 => szEnd h0).trans (congrArg (fun c : Nat => some (szR c l)) (show (costL [.l c3] a.2.2.2.2.1 + 0) = (0 + (0 + (0 + (0 + (costL [.l c3] a.2.2.2.2.1 + 0))))) from by omega))
theorem s53 : Sat Tryz.prog 53 e53 := sat_of_run Tryz.func53 (c := bodyOf Tryz.f53) (by kernel_rfl) (ne_of_dec (by kernel_rfl)) mixed tab_ok (by kernel_rfl) (ftOf_cons s17 ftOf_nil) (by kernel_rfl) (fun h => (Bool.false_ne_true h).elim) r53
/- 19 loop.example/g00513/laws.szManifestS -/
def e19 : FE := ⟨[(false, [.l c117]), (false, [.i .i64])], [(false, [.i .i64])], true, false, gsz [.l c117]⟩
noncomputable def ft19 : Nat → Option FE := ftOf [(53, e53)]
def hint19 : Nat → Hint := fun
  | 5 => ⟨[0, 1, 5], [], [1], [], [4], []⟩
  | _ => {}
def ord19 : Nat → List Nat := fun _ => []
noncomputable def b19_rrrlrll : Code := Code.l (Code.l (Code.r (Code.l (Code.r (Code.r (Code.r (bodyOf Tryz.f19)))))))
noncomputable def b19_rrrr : Code := Code.r (Code.r (Code.r (Code.r (bodyOf Tryz.f19))))
def S19_5 (x0 : List (Int × Int × Int × Int × List (Int) × Int)) (x1 : Int) (x2 : Int) : St := ⟨[.d false c117 x0, .v (.int .i64 x1), .bad, .bad, .bad, .v (.int .i64 x2), .bad, .bad, .bad, .bad, .bad, .bad, .bad, .bad, .bad, .bad, .bad, .bad, .bad, .bad, .bad, .bad, .bad, .bad, .bad, .bad, .bad], []⟩
def X19_5_r (x0 : Int) : St := ⟨[.bad, .bad, .bad, .bad, .v (.int .i64 x0), .bad, .bad, .bad, .bad, .bad, .bad, .bad, .bad, .bad, .bad, .bad, .bad, .bad, .bad, .bad, .bad, .bad, .bad, .bad, .bad, .bad, .bad], []⟩
def X19_5_0 (x0 : Int) : St := ⟨[.bad, .v (.int .i64 x0), .bad, .bad, .bad, .bad, .bad, .bad, .bad, .bad, .bad, .bad, .bad, .bad, .bad, .bad, .bad, .bad, .bad, .bad, .bad, .bad, .bad, .bad, .bad, .bad, .bad], []⟩
theorem en19 (n : Nat) (a0 : (List (Int × Int × Int × Int × List (Int) × Int))) (a1 : Int) : runF tab ft19 hint19 ord19 Tryz.f19 [(false, [.l c117]), (false, [.i .i64])] [(false, [.i .i64])] true n (a0, a1) =
  (bif (decide ((IntKind.wrap .i64 (a1 - (a0.length : Int))) < 0)) then
  (some (-1))
  else (loopK (codeK tab ft19 hint19 ord19 b19_rrrlrll n) (hint19 5) n (S19_5 a0 (IntKind.wrap .i64 (a1 - (a0.length : Int))) 0) (Ex.block 0 (sK tab ft19 hint19 ord19 n b19_rrrr (retK tab Tryz.f19 true [(false, [.i .i64])])))) : Option (Int)) := by kernel_rfl
theorem st19_5 {R : Type} (n m : Nat) (K : Ex → St → Option R) (x0 : List (Int × Int × Int × Int × List (Int) × Int)) (x1 : Int) (x2 : Int) : loopK (codeK tab ft19 hint19 ord19 b19_rrrlrll n) (hint19 5) (m + 1) (S19_5 x0 x1 x2) K =
  bif (decide (x2 < (x0.length : Int))) then
  (bif decide (0 ≤ x2) && decide (x2 < (x0.length : Int)) then
    ((gsz [.i .i64, .i .i64, .i .i64, .i .i64, .l c3, .i .i64] ((x0.getD x2.toNat d117), x1)).bind fun y2 =>
      bif (decide (y2 < 0)) then
      (K .ret (X19_5_r (-1)))
      else (loopK (codeK tab ft19 hint19 ord19 b19_rrrlrll n) (hint19 5) m (S19_5 x0 y2 (IntKind.wrap .i64 (x2 + 1))) K))
    else (none))
  else (K (.exit 0) (X19_5_0 x1)) := by kernel_rfl
theorem ex19_5_r (n : Nat) (x0 : Int) : (Ex.block 0 (sK tab ft19 hint19 ord19 n b19_rrrr (retK tab Tryz.f19 true [(false, [.i .i64])]))) .ret (X19_5_r x0) =
  (some x0 : Option (Int)) := by kernel_rfl
theorem ex19_5_0 (n : Nat) (x0 : Int) : (Ex.block 0 (sK tab ft19 hint19 ord19 n b19_rrrr (retK tab Tryz.f19 true [(false, [.i .i64])]))) (.exit 0) (X19_5_0 x0) =
  (some x0 : Option (Int)) := by kernel_rfl
theorem r19 : ∀ x y, okP e19.ps x → e19.φ x = some y → ∃ n, runF tab ft19 hint19 ord19 Tryz.f19 e19.ps e19.rs e19.fr n x = some y := by
  rintro ⟨a, l⟩ y ok h
  obtain ⟨h0, h1, rfl⟩ := gsz_some (cs := [.l c117]) h
  refine ⟨a.length + 1, (en19 _ a l).trans (szNest (cs := c117) (T := fun l => loopK (codeK tab ft19 hint19 ord19 b19_rrrlrll (a.length + 1)) (hint19 5) (a.length + 1) (S19_5 a l 0) (Ex.block 0 (sK tab ft19 hint19 ord19 (a.length + 1) b19_rrrr (retK tab Tryz.f19 true [(false, [.i .i64])])))) h0 h1 ok.1.1 fun l g0 g1 hl => ?_)⟩
  exact szLoop0 (CT.dfltL c117) (fun m x l i => loopK (codeK tab ft19 hint19 ord19 b19_rrrlrll (a.length + 1)) (hint19 5) m (S19_5 x l i) (Ex.block 0 (sK tab ft19 hint19 ord19 (a.length + 1) b19_rrrr (retK tab Tryz.f19 true [(false, [.i .i64])])))) (fun l => (Ex.block 0 (sK tab ft19 hint19 ord19 (a.length + 1) b19_rrrr (retK tab Tryz.f19 true [(false, [.i .i64])]))) (.exit 0) (X19_5_0 l)) (fun r => (Ex.block 0 (sK tab ft19 hint19 ord19 (a.length + 1) b19_rrrr (retK tab Tryz.f19 true [(false, [.i .i64])]))) .ret (X19_5_r r)) (fun l => ex19_5_0 _ l) (ex19_5_r _ (-1)) (fun m x l i => st19_5 _ m _ x l i) a hl g0 g1
theorem s19 : Sat Tryz.prog 19 e19 := sat_of_run Tryz.func19 (c := bodyOf Tryz.f19) (by kernel_rfl) (ne_of_dec (by kernel_rfl)) mixed tab_ok (by kernel_rfl) (ftOf_cons s53 ftOf_nil) (by kernel_rfl) (fun h => (Bool.false_ne_true h).elim) r19
/- 54 loop.example/g00513/laws.szProofS -/
def e54 : FE := ⟨[(false, [.l c176]), (false, [.i .i64])], [(false, [.i .i64])], true, false, gsz [.l c176]⟩
def ft54 : Nat → Option FE := ftOf []
def hint54 : Nat → Hint := fun _ => {}
def ord54 : Nat → List Nat := fun _ => []
theorem en54 (n : Nat) (a0 : (List (Int × Int × Int))) (a1 : Int) : runF tab ft54 hint54 ord54 Tryz.f54 [(false, [.l c176]), (false, [.i .i64])] [(false, [.i .i64])] true n (a0, a1) =
  (bif (decide ((IntKind.wrap .i64 (a1 - (a0.length : Int))) < 0)) then
  (some (-1))
  else (some (IntKind.wrap .i64 (a1 - (a0.length : Int)))) : Option (Int)) := by kernel_rfl
theorem r54 : ∀ x y, okP e54.ps x → e54.φ x = some y → ∃ n, runF tab ft54 hint54 ord54 Tryz.f54 e54.ps e54.rs e54.fr n x = some y := by
  rintro ⟨a, l⟩ y ok h
  obtain ⟨h0, h1, rfl⟩ := gsz_some (cs := [.l c176]) h
  exact ⟨0, (en54 0 a l).trans (szFlat (cs := c176) (β := Unit) h0 h1 ok.1.1 (fun _ => rfl))⟩
theorem s54 : Sat Tryz.prog 54 e54 := sat_of_run Tryz.func54 (c := bodyOf Tryz.f54) (by kernel_rfl) (ne_of_dec (by kernel_rfl)) mixed tab_ok (by kernel_rfl) ftOf_nil (by kernel_rfl) (fun h => (Bool.false_ne_true h).elim) r54
/- 20 loop.example/g00513/laws.szLedger -/
def e20 : FE := ⟨[(true, [.l c176]), (false, [.i .i64])], [(false, [.i .i64])], true, false, gsz [.l c176]⟩
noncomputable def ft20 : Nat → Option FE := ftOf [(54, e54)]
def hint20 : Nat → Hint := fun _ => {}
def ord20 : Nat → List Nat := fun _ => []
theorem en20 (n : Nat) (a0 : (List (Int × Int × Int))) (a1 : Int) : runF tab ft20 hint20 ord20 Tryz.f20 [(true, [.l c176]), (false, [.i .i64])] [(false, [.i .i64])] true n (a0, a1) =
  ((gsz [.l c176] (a0, a1)).bind fun y1 =>
  bif (decide (y1 < 0)) then
  (some (-1))
  else (some y1) : Option (Int)) := by kernel_rfl
theorem r20 : ∀ x y, okP e20.ps x → e20.φ x = some y → ∃ n, runF tab ft20 hint20 ord20 Tryz.f20 e20.ps e20.rs e20.fr n x = some y := by
  rintro ⟨a, l⟩ y ok h
  obtain ⟨h0, h1, rfl⟩ := gsz_some (cs := [.l c176]) h
  refine ⟨0, (en20 0 a l).trans ?_⟩
  exact (szSeq (β := Unit) h0 h1 fun l h0 h1 => szEnd h0).trans (congrArg (fun c : Nat => some (szR c l)) (show (costL [.l c176] a + 0) = costL [.l c176] a from by omega))
theorem s20 : Sat Tryz.prog 20 e20 := sat_of_run Tryz.func20 (c := bodyOf Tryz.f20) (by kernel_rfl) (ne_of_dec (by kernel_rfl)) mixed tab_ok (by kernel_rfl) (ftOf_cons s54 ftOf_nil) (by kernel_rfl) (fun h => (Bool.false_ne_true h).elim) r20
/- 4 loop.example/g00513/laws.szWorld -/
def e4 : FE := ⟨[(true, [.i .i64, .l c176, .l c167, .i .i64, .i .i64, .i .i64, .i .i64, .l c171, .l c176, .i .i64, .l c110, .l c114, .l c3, .l c3, .l c117, .l c176, .i .i64, .i .i64, .i .i64]), (false, [.i .i64])], [(false, [.i .i64])], true, false, gsz [.i .i64, .l c176, .l c167, .i .i64, .i .i64, .i .i64, .i .i64, .l c171, .l c176, .i .i64, .l c110, .l c114, .l c3, .l c3, .l c117, .l c176, .i .i64, .i .i64, .i .i64]⟩
noncomputable def ft4 : Nat → Option FE := ftOf [(13, e13), (14, e14), (15, e15), (16, e16), (17, e17), (18, e18), (19, e19), (20, e20)]
def hint4 : Nat → Hint := fun _ => {}
def ord4 : Nat → List Nat := fun _ => []
theorem en4 (n : Nat) (a0 : Int × (List (Int × Int × Int)) × (List (Int × List (List (Int)))) × Int × Int × Int × Int × (List (Int × Int × Int × (List (Int × List (Int) × List (Int))) × Int)) × (List (Int × Int × Int)) × Int × (List (Int × (List (Int × Int × Int × (List (Int × List (Int) × List (Int))) × Int)))) × (List (Int × Int × List (Int) × (List (Int × Int × Int × Int × List (List (Int)))) × (List (Int × List (List (Int)))) × Int)) × List (Int) × List (Int) × (List (Int × Int × Int × Int × List (Int) × Int)) × (List (Int × Int × Int)) × Int × Int × Int) (a1 : Int) : runF tab ft4 hint4 ord4 Tryz.f4 [(true, [.i .i64, .l c176, .l c167, .i .i64, .i .i64, .i .i64, .i .i64, .l c171, .l c176, .i .i64, .l c110, .l c114, .l c3, .l c3, .l c117, .l c176, .i .i64, .i .i64, .i .i64]), (false, [.i .i64])] [(false, [.i .i64])] true n (a0, a1) =
  ((gsz [.i .i64, .l c176] ((a0.1, a0.2.1), a1)).bind fun y1 =>
  bif (decide (y1 < 0)) then
  (some (-1))
  else ((gsz [.l c167, .i .i64, .i .i64, .i .i64, .i .i64, .l c171, .l c176, .i .i64] ((a0.2.2.1, a0.2.2.2.1, a0.2.2.2.2.1, a0.2.2.2.2.2.1, a0.2.2.2.2.2.2.1, a0.2.2.2.2.2.2.2.1, a0.2.2.2.2.2.2.2.2.1, a0.2.2.2.2.2.2.2.2.2.1), y1)).bind fun y2 =>
    bif (decide (y2 < 0)) then
    (some (-1))
    else ((gsz [.l c110] (a0.2.2.2.2.2.2.2.2.2.2.1, y2)).bind fun y3 =>
      bif (decide (y3 < 0)) then
      (some (-1))
      else ((gsz [.l c114] (a0.2.2.2.2.2.2.2.2.2.2.2.1, y3)).bind fun y4 =>
        bif (decide (y4 < 0)) then
        (some (-1))
        else ((gsz [.l c3] (a0.2.2.2.2.2.2.2.2.2.2.2.2.1, y4)).bind fun y5 =>
          bif (decide (y5 < 0)) then
          (some (-1))
          else ((gsz [.l c3] (a0.2.2.2.2.2.2.2.2.2.2.2.2.2.1, y5)).bind fun y6 =>
            bif (decide (y6 < 0)) then
            (some (-1))
            else ((gsz [.l c117] (a0.2.2.2.2.2.2.2.2.2.2.2.2.2.2.1, y6)).bind fun y7 =>
              bif (decide (y7 < 0)) then
              (some (-1))
              else ((gsz [.l c176] (a0.2.2.2.2.2.2.2.2.2.2.2.2.2.2.2.1, y7)).bind fun y8 =>
                bif (decide (y8 < 0)) then
                (some (-1))
                else (some y8)))))))) : Option (Int)) := by kernel_rfl
theorem r4 : ∀ x y, okP e4.ps x → e4.φ x = some y → ∃ n, runF tab ft4 hint4 ord4 Tryz.f4 e4.ps e4.rs e4.fr n x = some y := by
  rintro ⟨a, l⟩ y ok h
  obtain ⟨h0, h1, rfl⟩ := gsz_some (cs := [.i .i64, .l c176, .l c167, .i .i64, .i .i64, .i .i64, .i .i64, .l c171, .l c176, .i .i64, .l c110, .l c114, .l c3, .l c3, .l c117, .l c176, .i .i64, .i .i64, .i .i64]) h
  refine ⟨0, (en4 0 a l).trans ?_⟩
  exact (szSeq (β := Unit) h0 h1 fun l h0 h1 => szSeq (β := Unit) h0 h1 fun l h0 h1 => szSeq (β := Unit) h0 h1 fun l h0 h1 => szSeq (β := Unit) h0 h1 fun l h0 h1 => szSeq (β := Unit) h0 h1 fun l h0 h1 => szSeq (β := Unit) h0 h1 fun l h0 h1 => szSeq (β := Unit) h0 h1 fun l h0 h1 => szSeq (β := Unit) h0 h1 fun l h0 h1 => szEnd h0).trans (congrArg (fun c : Nat => some (szR c l)) (show ((0 + costL [.l c176] a.2.1) + ((costL [.l c167] a.2.2.1 + (0 + (0 + (0 + (0 + (costL [.l c171] a.2.2.2.2.2.2.2.1 + (costL [.l c176] a.2.2.2.2.2.2.2.2.1 + 0))))))) + (costL [.l c110] a.2.2.2.2.2.2.2.2.2.2.1 + (costL [.l c114] a.2.2.2.2.2.2.2.2.2.2.2.1 + (costL [.l c3] a.2.2.2.2.2.2.2.2.2.2.2.2.1 + (costL [.l c3] a.2.2.2.2.2.2.2.2.2.2.2.2.2.1 + (costL [.l c117] a.2.2.2.2.2.2.2.2.2.2.2.2.2.2.1 + (costL [.l c176] a.2.2.2.2.2.2.2.2.2.2.2.2.2.2.2.1 + 0)))))))) = (0 + (costL [.l c176] a.2.1 + (costL [.l c167] a.2.2.1 + (0 + (0 + (0 + (0 + (costL [.l c171] a.2.2.2.2.2.2.2.1 + (costL [.l c176] a.2.2.2.2.2.2.2.2.1 + (0 + (costL [.l c110] a.2.2.2.2.2.2.2.2.2.2.1 + (costL [.l c114] a.2.2.2.2.2.2.2.2.2.2.2.1 + (costL [.l c3] a.2.2.2.2.2.2.2.2.2.2.2.2.1 + (costL [.l c3] a.2.2.2.2.2.2.2.2.2.2.2.2.2.1 + (costL [.l c117] a.2.2.2.2.2.2.2.2.2.2.2.2.2.2.1 + (costL [.l c176] a.2.2.2.2.2.2.2.2.2.2.2.2.2.2.2.1 + (0 + (0 + 0)))))))))))))))))) from by omega))
theorem s4 : Sat Tryz.prog 4 e4 := sat_of_run Tryz.func4 (c := bodyOf Tryz.f4) (by kernel_rfl) (ne_of_dec (by kernel_rfl)) mixed tab_ok (by kernel_rfl) (ftOf_cons s13 (ftOf_cons s14 (ftOf_cons s15 (ftOf_cons s16 (ftOf_cons s17 (ftOf_cons s18 (ftOf_cons s19 (ftOf_cons s20 ftOf_nil)))))))) (by kernel_rfl) (fun h => (Bool.false_ne_true h).elim) r4
/- 97 loop.example/g00513/laws.toEdge -/
def e97 : FE := ⟨[(true, [.i .i64, .i .i64, .i .i64])], [(true, [.i .i64, .i .i64, .i .i64])], true, false, gto [.i .i64, .i .i64, .i .i64]⟩
def ft97 : Nat → Option FE := ftOf []
def hint97 : Nat → Hint := fun _ => {}
def ord97 : Nat → List Nat := fun _ => []
theorem en97 (n : Nat) (a0 : Int × Int × Int) : runF tab ft97 hint97 ord97 Tryz.f97 [(true, [.i .i64, .i .i64, .i .i64])] [(true, [.i .i64, .i .i64, .i .i64])] true n (a0) =
  (some a0 : Option (Int × Int × Int)) := by kernel_rfl
theorem r97 : ∀ x y, okP e97.ps x → e97.φ x = some y → ∃ n, runF tab ft97 hint97 ord97 Tryz.f97 e97.ps e97.rs e97.fr n x = some y := by
  rintro a y _ h
  obtain ⟨hs, rfl⟩ := gto_some (cs := [.i .i64, .i .i64, .i .i64]) (x := a) (y := y) h
  exact ⟨0, (en97 0 y).trans rfl⟩
theorem s97 : Sat Tryz.prog 97 e97 := sat_of_run Tryz.func97 (c := bodyOf Tryz.f97) (by kernel_rfl) (ne_of_dec (by kernel_rfl)) mixed tab_ok (by kernel_rfl) ftOf_nil (by kernel_rfl) (fun h => (Bool.false_ne_true h).elim) r97
/- 59 loop.example/g00513/laws.toEdgeS -/
def e59 : FE := ⟨[(false, [.l c176])], [(false, [.l c176])], true, false, gto [.l c176]⟩
noncomputable def ft59 : Nat → Option FE := ftOf [(97, e97)]
def hint59 : Nat → Hint := fun
  | 3 => ⟨[0, 3, 4], [224], [3], [224], [], []⟩
  | _ => {}
def ord59 : Nat → List Nat := fun _ => []
noncomputable def b59_rrlrll : Code := Code.l (Code.l (Code.r (Code.l (Code.r (Code.r (bodyOf Tryz.f59))))))
noncomputable def b59_rrr : Code := Code.r (Code.r (Code.r (bodyOf Tryz.f59)))
def S59_3 (x0 : List (Int × Int × Int)) (x1 : Int) (x2 : List (Int × Int × Int)) : St := ⟨[.d false c176 x0, .bad, .bad, .o 224, .v (.int .i64 x1), .bad, .bad, .bad, .bad, .bad, .bad, .bad, .bad, .bad, .bad, .bad, .bad, .bad, .bad, .bad, .bad, .bad, .bad], [(224, .sl true 125 c176 x2)]⟩
def X59_3_0 (x0 : List (Int × Int × Int)) : St := ⟨[.bad, .bad, .bad, .o 224, .bad, .bad, .bad, .bad, .bad, .bad, .bad, .bad, .bad, .bad, .bad, .bad, .bad, .bad, .bad, .bad, .bad, .bad, .bad], [(224, .sl true 125 c176 x0)]⟩
theorem en59 (n : Nat) (a0 : (List (Int × Int × Int))) : runF tab ft59 hint59 ord59 Tryz.f59 [(false, [.l c176])] [(false, [.l c176])] true n (a0) =
  (bif decide (0 ≤ (a0.length : Int)) && decide ((a0.length : Int) ≤ (a0.length : Int)) && le47 ((a0.length : Int) * (24 : Nat)) && le63 (a0.length : Int) then
  (loopK (codeK tab ft59 hint59 ord59 b59_rrlrll n) (hint59 3) n (S59_3 a0 0 (List.replicate ((a0.length : Int).toNat) d176)) (Ex.block 0 (sK tab ft59 hint59 ord59 n b59_rrr (retK tab Tryz.f59 true [(false, [.l c176])]))))
  else (none) : Option ((List (Int × Int × Int)))) := by kernel_rfl
theorem st59_3 {R : Type} (n m : Nat) (K : Ex → St → Option R) (x0 : List (Int × Int × Int)) (x1 : Int) (x2 : List (Int × Int × Int)) : loopK (codeK tab ft59 hint59 ord59 b59_rrlrll n) (hint59 3) (m + 1) (S59_3 x0 x1 x2) K =
  bif (decide (x1 < (x0.length : Int))) then
  (bif decide (0 ≤ x1) && decide (x1 < (x0.length : Int)) then
    ((gto [.i .i64, .i .i64, .i .i64] (x0.getD x1.toNat d176)).bind fun y2 =>
      bif decide (0 ≤ x1) && decide (x1 < (x2.length : Int)) then
      (loopK (codeK tab ft59 hint59 ord59 b59_rrlrll n) (hint59 3) m (S59_3 x0 (IntKind.wrap .i64 (x1 + 1)) (x2.set x1.toNat y2)) K)
      else (none))
    else (none))
  else (K (.exit 0) (X59_3_0 x2)) := by kernel_rfl
theorem ex59_3_0 (n : Nat) (x0 : List (Int × Int × Int)) : (Ex.block 0 (sK tab ft59 hint59 ord59 n b59_rrr (retK tab Tryz.f59 true [(false, [.l c176])]))) (.exit 0) (X59_3_0 x0) =
  (some x0 : Option ((List (Int × Int × Int)))) := by kernel_rfl
theorem r59 : ∀ x y, okP e59.ps x → e59.φ x = some y → ∃ n, runF tab ft59 hint59 ord59 Tryz.f59 e59.ps e59.rs e59.fr n x = some y := by
  rintro a y _ h
  obtain ⟨hs, rfl⟩ := gto_some (cs := [.l c176]) (x := a) (y := y) h
  obtain ⟨hl, he⟩ := small_l hs
  refine ⟨y.length + 1, (en59 _ y).trans (bif_true (mkCond hl (by decide)) ?_)⟩
  exact (toLoop0 (CT.dfltL c176) (fun m x i z => loopK (codeK tab ft59 hint59 ord59 b59_rrlrll (y.length + 1)) (hint59 3) m (S59_3 x i z) (Ex.block 0 (sK tab ft59 hint59 ord59 (y.length + 1) b59_rrr (retK tab Tryz.f59 true [(false, [.l c176])])))) (fun z => (Ex.block 0 (sK tab ft59 hint59 ord59 (y.length + 1) b59_rrr (retK tab Tryz.f59 true [(false, [.l c176])]))) (.exit 0) (X59_3_0 z)) (gto [.i .i64, .i .i64, .i .i64]) (fun m x i z => st59_3 _ m _ x i z) y _ (fun x hx => gto_ok (he x hx)) hl List.length_replicate).trans (ex59_3_0 _ y)
theorem s59 : Sat Tryz.prog 59 e59 := sat_of_run Tryz.func59 (c := bodyOf Tryz.f59) (by kernel_rfl) (ne_of_dec (by kernel_rfl)) mixed tab_ok (by kernel_rfl) (ftOf_cons s97 ftOf_nil) (by kernel_rfl) (fun h => (Bool.false_ne_true h).elim) r59
/- 23 loop.example/g00513/laws.toGraph -/
def e23 : FE := ⟨[(true, [.i .i64, .l c176])], [(true, [.i .i64, .l c176])], true, false, gto [.i .i64, .l c176]⟩
noncomputable def ft23 : Nat → Option FE := ftOf [(59, e59)]
def hint23 : Nat → Hint := fun _ => {}
def ord23 : Nat → List Nat := fun _ => []
theorem en23 (n : Nat) (a0 : Int × (List (Int × Int × Int))) : runF tab ft23 hint23 ord23 Tryz.f23 [(true, [.i .i64, .l c176])] [(true, [.i .i64, .l c176])] true n (a0) =
  ((gto [.l c176] a0.2).bind fun y1 =>
  some (a0.1, y1) : Option (Int × (List (Int × Int × Int)))) := by kernel_rfl
theorem r23 : ∀ x y, okP e23.ps x → e23.φ x = some y → ∃ n, runF tab ft23 hint23 ord23 Tryz.f23 e23.ps e23.rs e23.fr n x = some y := by
  rintro a y _ h
  obtain ⟨hs, rfl⟩ := gto_some (cs := [.i .i64, .l c176]) (x := a) (y := y) h
  exact ⟨0, (en23 0 y).trans (gtoB (cs := [.l c176]) (small_t hs) rfl)⟩
theorem s23 : Sat Tryz.prog 23 e23 := sat_of_run Tryz.func23 (c := bodyOf Tryz.f23) (by kernel_rfl) (ne_of_dec (by kernel_rfl)) mixed tab_ok (by kernel_rfl) (ftOf_cons s59 ftOf_nil) (by kernel_rfl) (fun h => (Bool.false_ne_true h).elim) r23
/- 27 loop.example/g00513/laws.toIntS -/
def e27 : FE := ⟨[(false, [.l c3])], [(false, [.l c3])], true, false, gto [.l c3]⟩
def ft27 : Nat → Option FE := ftOf []
def hint27 : Nat → Hint := fun
  | 3 => ⟨[0, 3, 4], [224], [3], [224], [], []⟩
  | _ => {}
def ord27 : Nat → List Nat := fun _ => []
noncomputable def b27_rrlrll : Code := Code.l (Code.l (Code.r (Code.l (Code.r (Code.r (bodyOf Tryz.f27))))))
noncomputable def b27_rrr : Code := Code.r (Code.r (Code.r (bodyOf Tryz.f27)))
def S27_3 (x0 : List (Int)) (x1 : Int) (x2 : List (Int)) : St := ⟨[.d false c3 x0, .bad, .bad, .o 224, .v (.int .i64 x1), .bad, .bad, .bad, .bad, .bad, .bad, .bad, .bad, .bad, .bad, .bad, .bad, .bad, .bad, .bad, .bad, .bad], [(224, .sl true 3 c3 x2)]⟩
def X27_3_0 (x0 : List (Int)) : St := ⟨[.bad, .bad, .bad, .o 224, .bad, .bad, .bad, .bad, .bad, .bad, .bad, .bad, .bad, .bad, .bad, .bad, .bad, .bad, .bad, .bad, .bad, .bad], [(224, .sl true 3 c3 x0)]⟩
theorem en27 (n : Nat) (a0 : List (Int)) : runF tab ft27 hint27 ord27 Tryz.f27 [(false, [.l c3])] [(false, [.l c3])] true n (a0) =
  (bif decide (0 ≤ (a0.length : Int)) && decide ((a0.length : Int) ≤ (a0.length : Int)) && le47 ((a0.length : Int) * (8 : Nat)) && le63 (a0.length : Int) then
  (loopK (codeK tab ft27 hint27 ord27 b27_rrlrll n) (hint27 3) n (S27_3 a0 0 (List.replicate ((a0.length : Int).toNat) d3)) (Ex.block 0 (sK tab ft27 hint27 ord27 n b27_rrr (retK tab Tryz.f27 true [(false, [.l c3])]))))
  else (none) : Option (List (Int))) := by kernel_rfl
theorem st27_3 {R : Type} (n m : Nat) (K : Ex → St → Option R) (x0 : List (Int)) (x1 : Int) (x2 : List (Int)) : loopK (codeK tab ft27 hint27 ord27 b27_rrlrll n) (hint27 3) (m + 1) (S27_3 x0 x1 x2) K =
  bif (decide (x1 < (x0.length : Int))) then
  (bif decide (0 ≤ x1) && decide (x1 < (x0.length : Int)) then
    (bif decide (0 ≤ x1) && decide (x1 < (x2.length : Int)) then
      (loopK (codeK tab ft27 hint27 ord27 b27_rrlrll n) (hint27 3) m (S27_3 x0 (IntKind.wrap .i64 (x1 + 1)) (x2.set x1.toNat (x0.getD x1.toNat d3))) K)
      else (none))
    else (none))
  else (K (.exit 0) (X27_3_0 x2)) := by kernel_rfl
theorem ex27_3_0 (n : Nat) (x0 : List (Int)) : (Ex.block 0 (sK tab ft27 hint27 ord27 n b27_rrr (retK tab Tryz.f27 true [(false, [.l c3])]))) (.exit 0) (X27_3_0 x0) =
  (some x0 : Option (List (Int))) := by kernel_rfl
theorem r27 : ∀ x y, okP e27.ps x → e27.φ x = some y → ∃ n, runF tab ft27 hint27 ord27 Tryz.f27 e27.ps e27.rs e27.fr n x = some y := by
  rintro a y _ h
  obtain ⟨hs, rfl⟩ := gto_some (cs := [.l c3]) (x := a) (y := y) h
  obtain ⟨hl, he⟩ := small_l hs
  refine ⟨y.length + 1, (en27 _ y).trans (bif_true (mkCond hl (by decide)) ?_)⟩
  exact (toLoop0 (CT.dfltL c3) (fun m x i z => loopK (codeK tab ft27 hint27 ord27 b27_rrlrll (y.length + 1)) (hint27 3) m (S27_3 x i z) (Ex.block 0 (sK tab ft27 hint27 ord27 (y.length + 1) b27_rrr (retK tab Tryz.f27 true [(false, [.l c3])])))) (fun z => (Ex.block 0 (sK tab ft27 hint27 ord27 (y.length + 1) b27_rrr (retK tab Tryz.f27 true [(false, [.l c3])]))) (.exit 0) (X27_3_0 z)) (fun x => some x) (fun m x i z => st27_3 _ m _ x i z) y _ (fun _ _ => rfl) hl List.length_replicate).trans (ex27_3_0 _ y)
theorem s27 : Sat Tryz.prog 27 e27 := sat_of_run Tryz.func27 (c := bodyOf Tryz.f27) (by kernel_rfl) (ne_of_dec (by kernel_rfl)) mixed tab_ok (by kernel_rfl) ftOf_nil (by kernel_rfl) (fun h => (Bool.false_ne_true h).elim) r27
/- 120 loop.example/g00513/laws.toIntSS -/
def e120 : FE := ⟨[(false, [.l c36])], [(false, [.l c36])], true, false, gto [.l c36]⟩
noncomputable def ft120 : Nat → Option FE := ftOf [(27, e27)]
def hint120 : Nat → Hint := fun
  | 3 => ⟨[0, 3, 4], [224], [3], [224], [], []⟩
  | _ => {}
def ord120 : Nat → List Nat := fun _ => []
noncomputable def b120_rrlrll : Code := Code.l (Code.l (Code.r (Code.l (Code.r (Code.r (bodyOf Tryz.f120))))))
noncomputable def b120_rrr : Code := Code.r (Code.r (Code.r (bodyOf Tryz.f120)))
def S120_3 (x0 : List (List (Int))) (x1 : Int) (x2 : List (List (Int))) : St := ⟨[.d false c36 x0, .bad, .bad, .o 224, .v (.int .i64 x1), .bad, .bad, .bad, .bad, .bad, .bad, .bad, .bad, .bad, .bad, .bad, .bad, .bad, .bad, .bad, .bad, .bad, .bad], [(224, .sl true 36 c36 x2)]⟩
def X120_3_0 (x0 : List (List (Int))) : St := ⟨[.bad, .bad, .bad, .o 224, .bad, .bad, .bad, .bad, .bad, .bad, .bad, .bad, .bad, .bad, .bad, .bad, .bad, .bad, .bad, .bad, .bad, .bad, .bad], [(224, .sl true 36 c36 x0)]⟩
theorem en120 (n : Nat) (a0 : List (List (Int))) : runF tab ft120 hint120 ord120 Tryz.f120 [(false, [.l c36])] [(false, [.l c36])] true n (a0) =
  (bif decide (0 ≤ (a0.length : Int)) && decide ((a0.length : Int) ≤ (a0.length : Int)) && le47 ((a0.length : Int) * (24 : Nat)) && le63 (a0.length : Int) then
  (loopK (codeK tab ft120 hint120 ord120 b120_rrlrll n) (hint120 3) n (S120_3 a0 0 (List.replicate ((a0.length : Int).toNat) d36)) (Ex.block 0 (sK tab ft120 hint120 ord120 n b120_rrr (retK tab Tryz.f120 true [(false, [.l c36])]))))
  else (none) : Option (List (List (Int)))) := by kernel_rfl
theorem st120_3 {R : Type} (n m : Nat) (K : Ex → St → Option R) (x0 : List (List (Int))) (x1 : Int) (x2 : List (List (Int))) : loopK (codeK tab ft120 hint120 ord120 b120_rrlrll n) (hint120 3) (m + 1) (S120_3 x0 x1 x2) K =
  bif (decide (x1 < (x0.length : Int))) then
  (bif decide (0 ≤ x1) && decide (x1 < (x0.length : Int)) then
    ((gto [.l c3] (x0.getD x1.toNat d36)).bind fun y2 =>
      bif decide (0 ≤ x1) && decide (x1 < (x2.length : Int)) then
      (loopK (codeK tab ft120 hint120 ord120 b120_rrlrll n) (hint120 3) m (S120_3 x0 (IntKind.wrap .i64 (x1 + 1)) (x2.set x1.toNat y2)) K)
      else (none))
    else (none))
  else (K (.exit 0) (X120_3_0 x2)) := by kernel_rfl
theorem ex120_3_0 (n : Nat) (x0 : List (List (Int))) : (Ex.block 0 (sK tab ft120 hint120 ord120 n b120_rrr (retK tab Tryz.f120 true [(false, [.l c36])]))) (.exit 0) (X120_3_0 x0) =
  (some x0 : Option (List (List (Int)))) := by kernel_rfl
theorem r120 : ∀ x y, okP e120.ps x → e120.φ x = some y → ∃ n, runF tab ft120 hint120 ord120 Tryz.f120 e120.ps e120.rs e120.fr n x = some y := by
  rintro a y _ h
  obtain ⟨hs, rfl⟩ := gto_some (cs := [.l c36]) (x := a) (y := y) h
  obtain ⟨hl, he⟩ := small_l hs
  refine ⟨y.length + 1, (en120 _ y).trans (bif_true (mkCond hl (by decide)) ?_)⟩
  exact (toLoop0 (CT.dfltL c36) (fun m x i z => loopK (codeK tab ft120 hint120 ord120 b120_rrlrll (y.length + 1)) (hint120 3) m (S120_3 x i z) (Ex.block 0 (sK tab ft120 hint120 ord120 (y.length + 1) b120_rrr (retK tab Tryz.f120 true [(false, [.l c36])])))) (fun z => (Ex.block 0 (sK tab ft120 hint120 ord120 (y.length + 1) b120_rrr (retK tab Tryz.f120 true [(false, [.l c36])]))) (.exit 0) (X120_3_0 z)) (gto [.l c3]) (fun m x i z => st120_3 _ m _ x i z) y _ (fun x hx => gto_ok (he x hx)) hl List.length_replicate).trans (ex120_3_0 _ y)
theorem s120 : Sat Tryz.prog 120 e120 := sat_of_run Tryz.func120 (c := bodyOf Tryz.f120) (by kernel_rfl) (ne_of_dec (by kernel_rfl)) mixed tab_ok (by kernel_rfl) (ftOf_cons s27 ftOf_nil) (by kernel_rfl) (fun h => (Bool.false_ne_true h).elim) r120
/- 98 loop.example/g00513/laws.toGeneration -/
def e98 : FE := ⟨[(true, [.i .i64, .l c36])], [(true, [.i .i64, .l c36])], true, false, gto [.i .i64, .l c36]⟩
noncomputable def ft98 : Nat → Option FE := ftOf [(120, e120)]
def hint98 : Nat → Hint := fun _ => {}
def ord98 : Nat → List Nat := fun _ => []
theorem en98 (n : Nat) (a0 : Int × List (List (Int))) : runF tab ft98 hint98 ord98 Tryz.f98 [(true, [.i .i64, .l c36])] [(true, [.i .i64, .l c36])] true n (a0) =
  ((gto [.l c36] a0.2).bind fun y1 =>
  some (a0.1, y1) : Option (Int × List (List (Int)))) := by kernel_rfl
theorem r98 : ∀ x y, okP e98.ps x → e98.φ x = some y → ∃ n, runF tab ft98 hint98 ord98 Tryz.f98 e98.ps e98.rs e98.fr n x = some y := by
  rintro a y _ h
  obtain ⟨hs, rfl⟩ := gto_some (cs := [.i .i64, .l c36]) (x := a) (y := y) h
  exact ⟨0, (en98 0 y).trans (gtoB (cs := [.l c36]) (small_t hs) rfl)⟩
theorem s98 : Sat Tryz.prog 98 e98 := sat_of_run Tryz.func98 (c := bodyOf Tryz.f98) (by kernel_rfl) (ne_of_dec (by kernel_rfl)) mixed tab_ok (by kernel_rfl) (ftOf_cons s120 ftOf_nil) (by kernel_rfl) (fun h => (Bool.false_ne_true h).elim) r98
/- 60 loop.example/g00513/laws.toGenerationS -/
def e60 : FE := ⟨[(false, [.l c167])], [(false, [.l c167])], true, false, gto [.l c167]⟩
noncomputable def ft60 : Nat → Option FE := ftOf [(98, e98)]
def hint60 : Nat → Hint := fun
  | 3 => ⟨[0, 3, 4], [224], [3], [224], [], []⟩
  | _ => {}
def ord60 : Nat → List Nat := fun _ => []
noncomputable def b60_rrlrll : Code := Code.l (Code.l (Code.r (Code.l (Code.r (Code.r (bodyOf Tryz.f60))))))
noncomputable def b60_rrr : Code := Code.r (Code.r (Code.r (bodyOf Tryz.f60)))
def S60_3 (x0 : List (Int × List (List (Int)))) (x1 : Int) (x2 : List (Int × List (List (Int)))) : St := ⟨[.d false c167 x0, .bad, .bad, .o 224, .v (.int .i64 x1), .bad, .bad, .bad, .bad, .bad, .bad, .bad, .bad, .bad, .bad, .bad, .bad, .bad, .bad, .bad, .bad, .bad, .bad], [(224, .sl true 177 c167 x2)]⟩
def X60_3_0 (x0 : List (Int × List (List (Int)))) : St := ⟨[.bad, .bad, .bad, .o 224, .bad, .bad, .bad, .bad, .bad, .bad, .bad, .bad, .bad, .bad, .bad, .bad, .bad, .bad, .bad, .bad, .bad, .bad, .bad], [(224, .sl true 177 c167 x0)]⟩
theorem en60 (n : Nat) (a0 : (List (Int × List (List (Int))))) : runF tab ft60 hint60 ord60 Tryz.f60 [(false, [.l c167])] [(false, [.l c167])] true n (a0) =
  (bif decide (0 ≤ (a0.length : Int)) && decide ((a0.length : Int) ≤ (a0.length : Int)) && le47 ((a0.length : Int) * (32 : Nat)) && le63 (a0.length : Int) then
  (loopK (codeK tab ft60 hint60 ord60 b60_rrlrll n) (hint60 3) n (S60_3 a0 0 (List.replicate ((a0.length : Int).toNat) d167)) (Ex.block 0 (sK tab ft60 hint60 ord60 n b60_rrr (retK tab Tryz.f60 true [(false, [.l c167])]))))
  else (none) : Option ((List (Int × List (List (Int)))))) := by kernel_rfl
theorem st60_3 {R : Type} (n m : Nat) (K : Ex → St → Option R) (x0 : List (Int × List (List (Int)))) (x1 : Int) (x2 : List (Int × List (List (Int)))) : loopK (codeK tab ft60 hint60 ord60 b60_rrlrll n) (hint60 3) (m + 1) (S60_3 x0 x1 x2) K =
  bif (decide (x1 < (x0.length : Int))) then
  (bif decide (0 ≤ x1) && decide (x1 < (x0.length : Int)) then
    ((gto [.i .i64, .l c36] (x0.getD x1.toNat d167)).bind fun y2 =>
      bif decide (0 ≤ x1) && decide (x1 < (x2.length : Int)) then
      (loopK (codeK tab ft60 hint60 ord60 b60_rrlrll n) (hint60 3) m (S60_3 x0 (IntKind.wrap .i64 (x1 + 1)) (x2.set x1.toNat y2)) K)
      else (none))
    else (none))
  else (K (.exit 0) (X60_3_0 x2)) := by kernel_rfl
theorem ex60_3_0 (n : Nat) (x0 : List (Int × List (List (Int)))) : (Ex.block 0 (sK tab ft60 hint60 ord60 n b60_rrr (retK tab Tryz.f60 true [(false, [.l c167])]))) (.exit 0) (X60_3_0 x0) =
  (some x0 : Option ((List (Int × List (List (Int)))))) := by kernel_rfl
theorem r60 : ∀ x y, okP e60.ps x → e60.φ x = some y → ∃ n, runF tab ft60 hint60 ord60 Tryz.f60 e60.ps e60.rs e60.fr n x = some y := by
  rintro a y _ h
  obtain ⟨hs, rfl⟩ := gto_some (cs := [.l c167]) (x := a) (y := y) h
  obtain ⟨hl, he⟩ := small_l hs
  refine ⟨y.length + 1, (en60 _ y).trans (bif_true (mkCond hl (by decide)) ?_)⟩
  exact (toLoop0 (CT.dfltL c167) (fun m x i z => loopK (codeK tab ft60 hint60 ord60 b60_rrlrll (y.length + 1)) (hint60 3) m (S60_3 x i z) (Ex.block 0 (sK tab ft60 hint60 ord60 (y.length + 1) b60_rrr (retK tab Tryz.f60 true [(false, [.l c167])])))) (fun z => (Ex.block 0 (sK tab ft60 hint60 ord60 (y.length + 1) b60_rrr (retK tab Tryz.f60 true [(false, [.l c167])]))) (.exit 0) (X60_3_0 z)) (gto [.i .i64, .l c36]) (fun m x i z => st60_3 _ m _ x i z) y _ (fun x hx => gto_ok (he x hx)) hl List.length_replicate).trans (ex60_3_0 _ y)
theorem s60 : Sat Tryz.prog 60 e60 := sat_of_run Tryz.func60 (c := bodyOf Tryz.f60) (by kernel_rfl) (ne_of_dec (by kernel_rfl)) mixed tab_ok (by kernel_rfl) (ftOf_cons s98 ftOf_nil) (by kernel_rfl) (fun h => (Bool.false_ne_true h).elim) r60
/- 61 loop.example/g00513/laws.toSendWindow -/
def e61 : FE := ⟨[(true, [.i .i64, .i .i64, .i .i64, .i .i64])], [(true, [.i .i64, .i .i64, .i .i64, .i .i64])], true, false, gto [.i .i64, .i .i64, .i .i64, .i .i64]⟩
def ft61 : Nat → Option FE := ftOf []
def hint61 : Nat → Hint := fun _ => {}
def ord61 : Nat → List Nat := fun _ => []
theorem en61 (n : Nat) (a0 : Int × Int × Int × Int) : runF tab ft61 hint61 ord61 Tryz.f61 [(true, [.i .i64, .i .i64, .i .i64, .i .i64])] [(true, [.i .i64, .i .i64, .i .i64, .i .i64])] true n (a0) =
  (some a0 : Option (Int × Int × Int × Int)) := by kernel_rfl
theorem r61 : ∀ x y, okP e61.ps x → e61.φ x = some y → ∃ n, runF tab ft61 hint61 ord61 Tryz.f61 e61.ps e61.rs e61.fr n x = some y := by
  rintro a y _ h
  obtain ⟨hs, rfl⟩ := gto_some (cs := [.i .i64, .i .i64, .i .i64, .i .i64]) (x := a) (y := y) h
  exact ⟨0, (en61 0 y).trans rfl⟩
theorem s61 : Sat Tryz.prog 61 e61 := sat_of_run Tryz.func61 (c := bodyOf Tryz.f61) (by kernel_rfl) (ne_of_dec (by kernel_rfl)) mixed tab_ok (by kernel_rfl) ftOf_nil (by kernel_rfl) (fun h => (Bool.false_ne_true h).elim) r61
/- 136 loop.example/g00513/laws.toCodedPacket -/
def e136 : FE := ⟨[(true, [.i .i64, .l c3, .l c3])], [(true, [.i .i64, .l c3, .l c3])], true, false, gto [.i .i64, .l c3, .l c3]⟩
noncomputable def ft136 : Nat → Option FE := ftOf [(27, e27)]
def hint136 : Nat → Hint := fun _ => {}
def ord136 : Nat → List Nat := fun _ => []
theorem en136 (n : Nat) (a0 : Int × List (Int) × List (Int)) : runF tab ft136 hint136 ord136 Tryz.f136 [(true, [.i .i64, .l c3, .l c3])] [(true, [.i .i64, .l c3, .l c3])] true n (a0) =
  ((gto [.l c3] a0.2.1).bind fun y1 =>
  (gto [.l c3] a0.2.2).bind fun y2 =>
  some (a0.1, y1, y2) : Option (Int × List (Int) × List (Int))) := by kernel_rfl
theorem r136 : ∀ x y, okP e136.ps x → e136.φ x = some y → ∃ n, runF tab ft136 hint136 ord136 Tryz.f136 e136.ps e136.rs e136.fr n x = some y := by
  rintro a y _ h
  obtain ⟨hs, rfl⟩ := gto_some (cs := [.i .i64, .l c3, .l c3]) (x := a) (y := y) h
  exact ⟨0, (en136 0 y).trans (gtoB (cs := [.l c3]) (small_h (small_t hs)) (gtoB (cs := [.l c3]) (small_t (small_t hs)) rfl))⟩
theorem s136 : Sat Tryz.prog 136 e136 := sat_of_run Tryz.func136 (c := bodyOf Tryz.f136) (by kernel_rfl) (ne_of_dec (by kernel_rfl)) mixed tab_ok (by kernel_rfl) (ftOf_cons s27 ftOf_nil) (by kernel_rfl) (fun h => (Bool.false_ne_true h).elim) r136
/- 121 loop.example/g00513/laws.toCodedPacketS -/
def e121 : FE := ⟨[(false, [.l c228])], [(false, [.l c228])], true, false, gto [.l c228]⟩
noncomputable def ft121 : Nat → Option FE := ftOf [(136, e136)]
def hint121 : Nat → Hint := fun
  | 3 => ⟨[0, 3, 4], [224], [3], [224], [], []⟩
  | _ => {}
def ord121 : Nat → List Nat := fun _ => []
noncomputable def b121_rrlrll : Code := Code.l (Code.l (Code.r (Code.l (Code.r (Code.r (bodyOf Tryz.f121))))))
noncomputable def b121_rrr : Code := Code.r (Code.r (Code.r (bodyOf Tryz.f121)))
def S121_3 (x0 : List (Int × List (Int) × List (Int))) (x1 : Int) (x2 : List (Int × List (Int) × List (Int))) : St := ⟨[.d false c228 x0, .bad, .bad, .o 224, .v (.int .i64 x1), .bad, .bad, .bad, .bad, .bad, .bad, .bad, .bad, .bad, .bad, .bad, .bad, .bad, .bad, .bad, .bad, .bad, .bad], [(224, .sl true 226 c228 x2)]⟩
def X121_3_0 (x0 : List (Int × List (Int) × List (Int))) : St := ⟨[.bad, .bad, .bad, .o 224, .bad, .bad, .bad, .bad, .bad, .bad, .bad, .bad, .bad, .bad, .bad, .bad, .bad, .bad, .bad, .bad, .bad, .bad, .bad], [(224, .sl true 226 c228 x0)]⟩
theorem en121 (n : Nat) (a0 : (List (Int × List (Int) × List (Int)))) : runF tab ft121 hint121 ord121 Tryz.f121 [(false, [.l c228])] [(false, [.l c228])] true n (a0) =
  (bif decide (0 ≤ (a0.length : Int)) && decide ((a0.length : Int) ≤ (a0.length : Int)) && le47 ((a0.length : Int) * (56 : Nat)) && le63 (a0.length : Int) then
  (loopK (codeK tab ft121 hint121 ord121 b121_rrlrll n) (hint121 3) n (S121_3 a0 0 (List.replicate ((a0.length : Int).toNat) d228)) (Ex.block 0 (sK tab ft121 hint121 ord121 n b121_rrr (retK tab Tryz.f121 true [(false, [.l c228])]))))
  else (none) : Option ((List (Int × List (Int) × List (Int))))) := by kernel_rfl
theorem st121_3 {R : Type} (n m : Nat) (K : Ex → St → Option R) (x0 : List (Int × List (Int) × List (Int))) (x1 : Int) (x2 : List (Int × List (Int) × List (Int))) : loopK (codeK tab ft121 hint121 ord121 b121_rrlrll n) (hint121 3) (m + 1) (S121_3 x0 x1 x2) K =
  bif (decide (x1 < (x0.length : Int))) then
  (bif decide (0 ≤ x1) && decide (x1 < (x0.length : Int)) then
    ((gto [.i .i64, .l c3, .l c3] (x0.getD x1.toNat d228)).bind fun y2 =>
      bif decide (0 ≤ x1) && decide (x1 < (x2.length : Int)) then
      (loopK (codeK tab ft121 hint121 ord121 b121_rrlrll n) (hint121 3) m (S121_3 x0 (IntKind.wrap .i64 (x1 + 1)) (x2.set x1.toNat y2)) K)
      else (none))
    else (none))
  else (K (.exit 0) (X121_3_0 x2)) := by kernel_rfl
theorem ex121_3_0 (n : Nat) (x0 : List (Int × List (Int) × List (Int))) : (Ex.block 0 (sK tab ft121 hint121 ord121 n b121_rrr (retK tab Tryz.f121 true [(false, [.l c228])]))) (.exit 0) (X121_3_0 x0) =
  (some x0 : Option ((List (Int × List (Int) × List (Int))))) := by kernel_rfl
theorem r121 : ∀ x y, okP e121.ps x → e121.φ x = some y → ∃ n, runF tab ft121 hint121 ord121 Tryz.f121 e121.ps e121.rs e121.fr n x = some y := by
  rintro a y _ h
  obtain ⟨hs, rfl⟩ := gto_some (cs := [.l c228]) (x := a) (y := y) h
  obtain ⟨hl, he⟩ := small_l hs
  refine ⟨y.length + 1, (en121 _ y).trans (bif_true (mkCond hl (by decide)) ?_)⟩
  exact (toLoop0 (CT.dfltL c228) (fun m x i z => loopK (codeK tab ft121 hint121 ord121 b121_rrlrll (y.length + 1)) (hint121 3) m (S121_3 x i z) (Ex.block 0 (sK tab ft121 hint121 ord121 (y.length + 1) b121_rrr (retK tab Tryz.f121 true [(false, [.l c228])])))) (fun z => (Ex.block 0 (sK tab ft121 hint121 ord121 (y.length + 1) b121_rrr (retK tab Tryz.f121 true [(false, [.l c228])]))) (.exit 0) (X121_3_0 z)) (gto [.i .i64, .l c3, .l c3]) (fun m x i z => st121_3 _ m _ x i z) y _ (fun x hx => gto_ok (he x hx)) hl List.length_replicate).trans (ex121_3_0 _ y)
theorem s121 : Sat Tryz.prog 121 e121 := sat_of_run Tryz.func121 (c := bodyOf Tryz.f121) (by kernel_rfl) (ne_of_dec (by kernel_rfl)) mixed tab_ok (by kernel_rfl) (ftOf_cons s136 ftOf_nil) (by kernel_rfl) (fun h => (Bool.false_ne_true h).elim) r121
/- 99 loop.example/g00513/laws.toRecoder -/
def e99 : FE := ⟨[(true, [.i .i64, .i .i64, .i .i64, .l c228, .i .i64])], [(true, [.i .i64, .i .i64, .i .i64, .l c228, .i .i64])], true, false, gto [.i .i64, .i .i64, .i .i64, .l c228, .i .i64]⟩
noncomputable def ft99 : Nat → Option FE := ftOf [(121, e121)]
def hint99 : Nat → Hint := fun _ => {}
def ord99 : Nat → List Nat := fun _ => []
theorem en99 (n : Nat) (a0 : Int × Int × Int × (List (Int × List (Int) × List (Int))) × Int) : runF tab ft99 hint99 ord99 Tryz.f99 [(true, [.i .i64, .i .i64, .i .i64, .l c228, .i .i64])] [(true, [.i .i64, .i .i64, .i .i64, .l c228, .i .i64])] true n (a0) =
  ((gto [.l c228] a0.2.2.2.1).bind fun y1 =>
  some (a0.1, a0.2.1, a0.2.2.1, y1, a0.2.2.2.2) : Option (Int × Int × Int × (List (Int × List (Int) × List (Int))) × Int)) := by kernel_rfl
theorem r99 : ∀ x y, okP e99.ps x → e99.φ x = some y → ∃ n, runF tab ft99 hint99 ord99 Tryz.f99 e99.ps e99.rs e99.fr n x = some y := by
  rintro a y _ h
  obtain ⟨hs, rfl⟩ := gto_some (cs := [.i .i64, .i .i64, .i .i64, .l c228, .i .i64]) (x := a) (y := y) h
  exact ⟨0, (en99 0 y).trans (gtoB (cs := [.l c228]) (small_h (small_t (small_t (small_t hs)))) rfl)⟩
theorem s99 : Sat Tryz.prog 99 e99 := sat_of_run Tryz.func99 (c := bodyOf Tryz.f99) (by kernel_rfl) (ne_of_dec (by kernel_rfl)) mixed tab_ok (by kernel_rfl) (ftOf_cons s121 ftOf_nil) (by kernel_rfl) (fun h => (Bool.false_ne_true h).elim) r99
/- 62 loop.example/g00513/laws.toRecoderS -/
def e62 : FE := ⟨[(false, [.l c171])], [(false, [.l c171])], true, false, gto [.l c171]⟩
noncomputable def ft62 : Nat → Option FE := ftOf [(99, e99)]
def hint62 : Nat → Hint := fun
  | 3 => ⟨[0, 3, 4], [224], [3], [224], [], []⟩
  | _ => {}
def ord62 : Nat → List Nat := fun _ => []
noncomputable def b62_rrlrll : Code := Code.l (Code.l (Code.r (Code.l (Code.r (Code.r (bodyOf Tryz.f62))))))
noncomputable def b62_rrr : Code := Code.r (Code.r (Code.r (bodyOf Tryz.f62)))
def S62_3 (x0 : List (Int × Int × Int × (List (Int × List (Int) × List (Int))) × Int)) (x1 : Int) (x2 : List (Int × Int × Int × (List (Int × List (Int) × List (Int))) × Int)) : St := ⟨[.d false c171 x0, .bad, .bad, .o 224, .v (.int .i64 x1), .bad, .bad, .bad, .bad, .bad, .bad, .bad, .bad, .bad, .bad, .bad, .bad, .bad, .bad, .bad, .bad, .bad, .bad], [(224, .sl true 181 c171 x2)]⟩
def X62_3_0 (x0 : List (Int × Int × Int × (List (Int × List (Int) × List (Int))) × Int)) : St := ⟨[.bad, .bad, .bad, .o 224, .bad, .bad, .bad, .bad, .bad, .bad, .bad, .bad, .bad, .bad, .bad, .bad, .bad, .bad, .bad, .bad, .bad, .bad, .bad], [(224, .sl true 181 c171 x0)]⟩
theorem en62 (n : Nat) (a0 : (List (Int × Int × Int × (List (Int × List (Int) × List (Int))) × Int))) : runF tab ft62 hint62 ord62 Tryz.f62 [(false, [.l c171])] [(false, [.l c171])] true n (a0) =
  (bif decide (0 ≤ (a0.length : Int)) && decide ((a0.length : Int) ≤ (a0.length : Int)) && le47 ((a0.length : Int) * (56 : Nat)) && le63 (a0.length : Int) then
  (loopK (codeK tab ft62 hint62 ord62 b62_rrlrll n) (hint62 3) n (S62_3 a0 0 (List.replicate ((a0.length : Int).toNat) d171)) (Ex.block 0 (sK tab ft62 hint62 ord62 n b62_rrr (retK tab Tryz.f62 true [(false, [.l c171])]))))
  else (none) : Option ((List (Int × Int × Int × (List (Int × List (Int) × List (Int))) × Int)))) := by kernel_rfl
theorem st62_3 {R : Type} (n m : Nat) (K : Ex → St → Option R) (x0 : List (Int × Int × Int × (List (Int × List (Int) × List (Int))) × Int)) (x1 : Int) (x2 : List (Int × Int × Int × (List (Int × List (Int) × List (Int))) × Int)) : loopK (codeK tab ft62 hint62 ord62 b62_rrlrll n) (hint62 3) (m + 1) (S62_3 x0 x1 x2) K =
  bif (decide (x1 < (x0.length : Int))) then
  (bif decide (0 ≤ x1) && decide (x1 < (x0.length : Int)) then
    ((gto [.i .i64, .i .i64, .i .i64, .l c228, .i .i64] (x0.getD x1.toNat d171)).bind fun y2 =>
      bif decide (0 ≤ x1) && decide (x1 < (x2.length : Int)) then
      (loopK (codeK tab ft62 hint62 ord62 b62_rrlrll n) (hint62 3) m (S62_3 x0 (IntKind.wrap .i64 (x1 + 1)) (x2.set x1.toNat y2)) K)
      else (none))
    else (none))
  else (K (.exit 0) (X62_3_0 x2)) := by kernel_rfl
theorem ex62_3_0 (n : Nat) (x0 : List (Int × Int × Int × (List (Int × List (Int) × List (Int))) × Int)) : (Ex.block 0 (sK tab ft62 hint62 ord62 n b62_rrr (retK tab Tryz.f62 true [(false, [.l c171])]))) (.exit 0) (X62_3_0 x0) =
  (some x0 : Option ((List (Int × Int × Int × (List (Int × List (Int) × List (Int))) × Int)))) := by kernel_rfl
theorem r62 : ∀ x y, okP e62.ps x → e62.φ x = some y → ∃ n, runF tab ft62 hint62 ord62 Tryz.f62 e62.ps e62.rs e62.fr n x = some y := by
  rintro a y _ h
  obtain ⟨hs, rfl⟩ := gto_some (cs := [.l c171]) (x := a) (y := y) h
  obtain ⟨hl, he⟩ := small_l hs
  refine ⟨y.length + 1, (en62 _ y).trans (bif_true (mkCond hl (by decide)) ?_)⟩
  exact (toLoop0 (CT.dfltL c171) (fun m x i z => loopK (codeK tab ft62 hint62 ord62 b62_rrlrll (y.length + 1)) (hint62 3) m (S62_3 x i z) (Ex.block 0 (sK tab ft62 hint62 ord62 (y.length + 1) b62_rrr (retK tab Tryz.f62 true [(false, [.l c171])])))) (fun z => (Ex.block 0 (sK tab ft62 hint62 ord62 (y.length + 1) b62_rrr (retK tab Tryz.f62 true [(false, [.l c171])]))) (.exit 0) (X62_3_0 z)) (gto [.i .i64, .i .i64, .i .i64, .l c228, .i .i64]) (fun m x i z => st62_3 _ m _ x i z) y _ (fun x hx => gto_ok (he x hx)) hl List.length_replicate).trans (ex62_3_0 _ y)
theorem s62 : Sat Tryz.prog 62 e62 := sat_of_run Tryz.func62 (c := bodyOf Tryz.f62) (by kernel_rfl) (ne_of_dec (by kernel_rfl)) mixed tab_ok (by kernel_rfl) (ftOf_cons s99 ftOf_nil) (by kernel_rfl) (fun h => (Bool.false_ne_true h).elim) r62
/- 122 loop.example/g00513/laws.toFeedback -/
def e122 : FE := ⟨[(true, [.i .i64, .i .i64, .i .i64])], [(true, [.i .i64, .i .i64, .i .i64])], true, false, gto [.i .i64, .i .i64, .i .i64]⟩
def ft122 : Nat → Option FE := ftOf []
def hint122 : Nat → Hint := fun _ => {}
def ord122 : Nat → List Nat := fun _ => []
theorem en122 (n : Nat) (a0 : Int × Int × Int) : runF tab ft122 hint122 ord122 Tryz.f122 [(true, [.i .i64, .i .i64, .i .i64])] [(true, [.i .i64, .i .i64, .i .i64])] true n (a0) =
  (some a0 : Option (Int × Int × Int)) := by kernel_rfl
theorem r122 : ∀ x y, okP e122.ps x → e122.φ x = some y → ∃ n, runF tab ft122 hint122 ord122 Tryz.f122 e122.ps e122.rs e122.fr n x = some y := by
  rintro a y _ h
  obtain ⟨hs, rfl⟩ := gto_some (cs := [.i .i64, .i .i64, .i .i64]) (x := a) (y := y) h
  exact ⟨0, (en122 0 y).trans rfl⟩
theorem s122 : Sat Tryz.prog 122 e122 := sat_of_run Tryz.func122 (c := bodyOf Tryz.f122) (by kernel_rfl) (ne_of_dec (by kernel_rfl)) mixed tab_ok (by kernel_rfl) ftOf_nil (by kernel_rfl) (fun h => (Bool.false_ne_true h).elim) r122
/- 100 loop.example/g00513/laws.toFeedbackS -/
def e100 : FE := ⟨[(false, [.l c176])], [(false, [.l c176])], true, false, gto [.l c176]⟩
noncomputable def ft100 : Nat → Option FE := ftOf [(122, e122)]
def hint100 : Nat → Hint := fun
  | 3 => ⟨[0, 3, 4], [224], [3], [224], [], []⟩
  | _ => {}
def ord100 : Nat → List Nat := fun _ => []
noncomputable def b100_rrlrll : Code := Code.l (Code.l (Code.r (Code.l (Code.r (Code.r (bodyOf Tryz.f100))))))
noncomputable def b100_rrr : Code := Code.r (Code.r (Code.r (bodyOf Tryz.f100)))
def S100_3 (x0 : List (Int × Int × Int)) (x1 : Int) (x2 : List (Int × Int × Int)) : St := ⟨[.d false c176 x0, .bad, .bad, .o 224, .v (.int .i64 x1), .bad, .bad, .bad, .bad, .bad, .bad, .bad, .bad, .bad, .bad, .bad, .bad, .bad, .bad, .bad, .bad, .bad, .bad], [(224, .sl true 211 c176 x2)]⟩
def X100_3_0 (x0 : List (Int × Int × Int)) : St := ⟨[.bad, .bad, .bad, .o 224, .bad, .bad, .bad, .bad, .bad, .bad, .bad, .bad, .bad, .bad, .bad, .bad, .bad, .bad, .bad, .bad, .bad, .bad, .bad], [(224, .sl true 211 c176 x0)]⟩
theorem en100 (n : Nat) (a0 : (List (Int × Int × Int))) : runF tab ft100 hint100 ord100 Tryz.f100 [(false, [.l c176])] [(false, [.l c176])] true n (a0) =
  (bif decide (0 ≤ (a0.length : Int)) && decide ((a0.length : Int) ≤ (a0.length : Int)) && le47 ((a0.length : Int) * (24 : Nat)) && le63 (a0.length : Int) then
  (loopK (codeK tab ft100 hint100 ord100 b100_rrlrll n) (hint100 3) n (S100_3 a0 0 (List.replicate ((a0.length : Int).toNat) d176)) (Ex.block 0 (sK tab ft100 hint100 ord100 n b100_rrr (retK tab Tryz.f100 true [(false, [.l c176])]))))
  else (none) : Option ((List (Int × Int × Int)))) := by kernel_rfl
theorem st100_3 {R : Type} (n m : Nat) (K : Ex → St → Option R) (x0 : List (Int × Int × Int)) (x1 : Int) (x2 : List (Int × Int × Int)) : loopK (codeK tab ft100 hint100 ord100 b100_rrlrll n) (hint100 3) (m + 1) (S100_3 x0 x1 x2) K =
  bif (decide (x1 < (x0.length : Int))) then
  (bif decide (0 ≤ x1) && decide (x1 < (x0.length : Int)) then
    ((gto [.i .i64, .i .i64, .i .i64] (x0.getD x1.toNat d176)).bind fun y2 =>
      bif decide (0 ≤ x1) && decide (x1 < (x2.length : Int)) then
      (loopK (codeK tab ft100 hint100 ord100 b100_rrlrll n) (hint100 3) m (S100_3 x0 (IntKind.wrap .i64 (x1 + 1)) (x2.set x1.toNat y2)) K)
      else (none))
    else (none))
  else (K (.exit 0) (X100_3_0 x2)) := by kernel_rfl
theorem ex100_3_0 (n : Nat) (x0 : List (Int × Int × Int)) : (Ex.block 0 (sK tab ft100 hint100 ord100 n b100_rrr (retK tab Tryz.f100 true [(false, [.l c176])]))) (.exit 0) (X100_3_0 x0) =
  (some x0 : Option ((List (Int × Int × Int)))) := by kernel_rfl
theorem r100 : ∀ x y, okP e100.ps x → e100.φ x = some y → ∃ n, runF tab ft100 hint100 ord100 Tryz.f100 e100.ps e100.rs e100.fr n x = some y := by
  rintro a y _ h
  obtain ⟨hs, rfl⟩ := gto_some (cs := [.l c176]) (x := a) (y := y) h
  obtain ⟨hl, he⟩ := small_l hs
  refine ⟨y.length + 1, (en100 _ y).trans (bif_true (mkCond hl (by decide)) ?_)⟩
  exact (toLoop0 (CT.dfltL c176) (fun m x i z => loopK (codeK tab ft100 hint100 ord100 b100_rrlrll (y.length + 1)) (hint100 3) m (S100_3 x i z) (Ex.block 0 (sK tab ft100 hint100 ord100 (y.length + 1) b100_rrr (retK tab Tryz.f100 true [(false, [.l c176])])))) (fun z => (Ex.block 0 (sK tab ft100 hint100 ord100 (y.length + 1) b100_rrr (retK tab Tryz.f100 true [(false, [.l c176])]))) (.exit 0) (X100_3_0 z)) (gto [.i .i64, .i .i64, .i .i64]) (fun m x i z => st100_3 _ m _ x i z) y _ (fun x hx => gto_ok (he x hx)) hl List.length_replicate).trans (ex100_3_0 _ y)
theorem s100 : Sat Tryz.prog 100 e100 := sat_of_run Tryz.func100 (c := bodyOf Tryz.f100) (by kernel_rfl) (ne_of_dec (by kernel_rfl)) mixed tab_ok (by kernel_rfl) (ftOf_cons s122 ftOf_nil) (by kernel_rfl) (fun h => (Bool.false_ne_true h).elim) r100
/- 63 loop.example/g00513/laws.toFeedbackTable -/
def e63 : FE := ⟨[(true, [.l c176])], [(true, [.l c176])], true, false, gto [.l c176]⟩
noncomputable def ft63 : Nat → Option FE := ftOf [(100, e100)]
def hint63 : Nat → Hint := fun _ => {}
def ord63 : Nat → List Nat := fun _ => []
theorem en63 (n : Nat) (a0 : (List (Int × Int × Int))) : runF tab ft63 hint63 ord63 Tryz.f63 [(true, [.l c176])] [(true, [.l c176])] true n (a0) =
  ((gto [.l c176] a0).bind fun y1 =>
  some y1 : Option ((List (Int × Int × Int)))) := by kernel_rfl
theorem r63 : ∀ x y, okP e63.ps x → e63.φ x = some y → ∃ n, runF tab ft63 hint63 ord63 Tryz.f63 e63.ps e63.rs e63.fr n x = some y := by
  rintro a y _ h
  obtain ⟨hs, rfl⟩ := gto_some (cs := [.l c176]) (x := a) (y := y) h
  exact ⟨0, (en63 0 y).trans (gtoB (cs := [.l c176]) hs rfl)⟩
theorem s63 : Sat Tryz.prog 63 e63 := sat_of_run Tryz.func63 (c := bodyOf Tryz.f63) (by kernel_rfl) (ne_of_dec (by kernel_rfl)) mixed tab_ok (by kernel_rfl) (ftOf_cons s100 ftOf_nil) (by kernel_rfl) (fun h => (Bool.false_ne_true h).elim) r63
/- 24 loop.example/g00513/laws.toSource -/
def e24 : FE := ⟨[(true, [.l c167, .i .i64, .i .i64, .i .i64, .i .i64, .l c171, .l c176, .i .i64])], [(true, [.l c167, .i .i64, .i .i64, .i .i64, .i .i64, .l c171, .l c176, .i .i64])], true, false, gto [.l c167, .i .i64, .i .i64, .i .i64, .i .i64, .l c171, .l c176, .i .i64]⟩
noncomputable def ft24 : Nat → Option FE := ftOf [(60, e60), (61, e61), (62, e62), (63, e63)]
def hint24 : Nat → Hint := fun _ => {}
def ord24 : Nat → List Nat := fun _ => []
theorem en24 (n : Nat) (a0 : (List (Int × List (List (Int)))) × Int × Int × Int × Int × (List (Int × Int × Int × (List (Int × List (Int) × List (Int))) × Int)) × (List (Int × Int × Int)) × Int) : runF tab ft24 hint24 ord24 Tryz.f24 [(true, [.l c167, .i .i64, .i .i64, .i .i64, .i .i64, .l c171, .l c176, .i .i64])] [(true, [.l c167, .i .i64, .i .i64, .i .i64, .i .i64, .l c171, .l c176, .i .i64])] true n (a0) =
  ((gto [.l c167] a0.1).bind fun y1 =>
  (gto [.i .i64, .i .i64, .i .i64, .i .i64] (a0.2.1, a0.2.2.1, a0.2.2.2.1, a0.2.2.2.2.1)).bind fun y2 =>
  (gto [.l c171] a0.2.2.2.2.2.1).bind fun y3 =>
  (gto [.l c176] a0.2.2.2.2.2.2.1).bind fun y4 =>
  some (y1, y2.1, y2.2.1, y2.2.2.1, y2.2.2.2, y3, y4, a0.2.2.2.2.2.2.2) : Option ((List (Int × List (List (Int)))) × Int × Int × Int × Int × (List (Int × Int × Int × (List (Int × List (Int) × List (Int))) × Int)) × (List (Int × Int × Int)) × Int)) := by kernel_rfl
theorem r24 : ∀ x y, okP e24.ps x → e24.φ x = some y → ∃ n, runF tab ft24 hint24 ord24 Tryz.f24 e24.ps e24.rs e24.fr n x = some y := by
  rintro a y _ h
  obtain ⟨hs, rfl⟩ := gto_some (cs := [.l c167, .i .i64, .i .i64, .i .i64, .i .i64, .l c171, .l c176, .i .i64]) (x := a) (y := y) h
  exact ⟨0, (en24 0 y).trans (gtoB (cs := [.l c167]) (small_h hs) (gtoB (cs := [.i .i64, .i .i64, .i .i64, .i .i64]) (small_c (small_h (small_t hs)) (small_c (small_h (small_t (small_t hs))) (small_c (small_h (small_t (small_t (small_t hs)))) (small_h (small_t (small_t (small_t (small_t hs)))))))) (gtoB (cs := [.l c171]) (small_h (small_t (small_t (small_t (small_t (small_t hs)))))) (gtoB (cs := [.l c176]) (small_h (small_t (small_t (small_t (small_t (small_t (small_t hs))))))) rfl))))⟩
theorem s24 : Sat Tryz.prog 24 e24 := sat_of_run Tryz.func24 (c := bodyOf Tryz.f24) (by kernel_rfl) (ne_of_dec (by kernel_rfl)) mixed tab_ok (by kernel_rfl) (ftOf_cons s60 (ftOf_cons s61 (ftOf_cons s62 (ftOf_cons s63 ftOf_nil)))) (by kernel_rfl) (fun h => (Bool.false_ne_true h).elim) r24
/- 64 loop.example/g00513/laws.toRelay -/
def e64 : FE := ⟨[(true, [.i .i64, .l c171])], [(true, [.i .i64, .l c171])], true, false, gto [.i .i64, .l c171]⟩
noncomputable def ft64 : Nat → Option FE := ftOf [(62, e62)]
def hint64 : Nat → Hint := fun _ => {}
def ord64 : Nat → List Nat := fun _ => []
theorem en64 (n : Nat) (a0 : Int × (List (Int × Int × Int × (List (Int × List (Int) × List (Int))) × Int))) : runF tab ft64 hint64 ord64 Tryz.f64 [(true, [.i .i64, .l c171])] [(true, [.i .i64, .l c171])] true n (a0) =
  ((gto [.l c171] a0.2).bind fun y1 =>
  some (a0.1, y1) : Option (Int × (List (Int × Int × Int × (List (Int × List (Int) × List (Int))) × Int)))) := by kernel_rfl
theorem r64 : ∀ x y, okP e64.ps x → e64.φ x = some y → ∃ n, runF tab ft64 hint64 ord64 Tryz.f64 e64.ps e64.rs e64.fr n x = some y := by
  rintro a y _ h
  obtain ⟨hs, rfl⟩ := gto_some (cs := [.i .i64, .l c171]) (x := a) (y := y) h
  exact ⟨0, (en64 0 y).trans (gtoB (cs := [.l c171]) (small_t hs) rfl)⟩
theorem s64 : Sat Tryz.prog 64 e64 := sat_of_run Tryz.func64 (c := bodyOf Tryz.f64) (by kernel_rfl) (ne_of_dec (by kernel_rfl)) mixed tab_ok (by kernel_rfl) (ftOf_cons s62 ftOf_nil) (by kernel_rfl) (fun h => (Bool.false_ne_true h).elim) r64
/- 25 loop.example/g00513/laws.toRelayS -/
def e25 : FE := ⟨[(false, [.l c110])], [(false, [.l c110])], true, false, gto [.l c110]⟩
noncomputable def ft25 : Nat → Option FE := ftOf [(64, e64)]
def hint25 : Nat → Hint := fun
  | 3 => ⟨[0, 3, 4], [224], [3], [224], [], []⟩
  | _ => {}
def ord25 : Nat → List Nat := fun _ => []
noncomputable def b25_rrlrll : Code := Code.l (Code.l (Code.r (Code.l (Code.r (Code.r (bodyOf Tryz.f25))))))
noncomputable def b25_rrr : Code := Code.r (Code.r (Code.r (bodyOf Tryz.f25)))
def S25_3 (x0 : List (Int × (List (Int × Int × Int × (List (Int × List (Int) × List (Int))) × Int)))) (x1 : Int) (x2 : List (Int × (List (Int × Int × Int × (List (Int × List (Int) × List (Int))) × Int)))) : St := ⟨[.d false c110 x0, .bad, .bad, .o 224, .v (.int .i64 x1), .bad, .bad, .bad, .bad, .bad, .bad, .bad, .bad, .bad, .bad, .bad, .bad, .bad, .bad, .bad, .bad, .bad, .bad], [(224, .sl true 132 c110 x2)]⟩
def X25_3_0 (x0 : List (Int × (List (Int × Int × Int × (List (Int × List (Int) × List (Int))) × Int)))) : St := ⟨[.bad, .bad, .bad, .o 224, .bad, .bad, .bad, .bad, .bad, .bad, .bad, .bad, .bad, .bad, .bad, .bad, .bad, .bad, .bad, .bad, .bad, .bad, .bad], [(224, .sl true 132 c110 x0)]⟩
theorem en25 (n : Nat) (a0 : (List (Int × (List (Int × Int × Int × (List (Int × List (Int) × List (Int))) × Int))))) : runF tab ft25 hint25 ord25 Tryz.f25 [(false, [.l c110])] [(false, [.l c110])] true n (a0) =
  (bif decide (0 ≤ (a0.length : Int)) && decide ((a0.length : Int) ≤ (a0.length : Int)) && le47 ((a0.length : Int) * (32 : Nat)) && le63 (a0.length : Int) then
  (loopK (codeK tab ft25 hint25 ord25 b25_rrlrll n) (hint25 3) n (S25_3 a0 0 (List.replicate ((a0.length : Int).toNat) d110)) (Ex.block 0 (sK tab ft25 hint25 ord25 n b25_rrr (retK tab Tryz.f25 true [(false, [.l c110])]))))
  else (none) : Option ((List (Int × (List (Int × Int × Int × (List (Int × List (Int) × List (Int))) × Int)))))) := by kernel_rfl
theorem st25_3 {R : Type} (n m : Nat) (K : Ex → St → Option R) (x0 : List (Int × (List (Int × Int × Int × (List (Int × List (Int) × List (Int))) × Int)))) (x1 : Int) (x2 : List (Int × (List (Int × Int × Int × (List (Int × List (Int) × List (Int))) × Int)))) : loopK (codeK tab ft25 hint25 ord25 b25_rrlrll n) (hint25 3) (m + 1) (S25_3 x0 x1 x2) K =
  bif (decide (x1 < (x0.length : Int))) then
  (bif decide (0 ≤ x1) && decide (x1 < (x0.length : Int)) then
    ((gto [.i .i64, .l c171] (x0.getD x1.toNat d110)).bind fun y2 =>
      bif decide (0 ≤ x1) && decide (x1 < (x2.length : Int)) then
      (loopK (codeK tab ft25 hint25 ord25 b25_rrlrll n) (hint25 3) m (S25_3 x0 (IntKind.wrap .i64 (x1 + 1)) (x2.set x1.toNat y2)) K)
      else (none))
    else (none))
  else (K (.exit 0) (X25_3_0 x2)) := by kernel_rfl
theorem ex25_3_0 (n : Nat) (x0 : List (Int × (List (Int × Int × Int × (List (Int × List (Int) × List (Int))) × Int)))) : (Ex.block 0 (sK tab ft25 hint25 ord25 n b25_rrr (retK tab Tryz.f25 true [(false, [.l c110])]))) (.exit 0) (X25_3_0 x0) =
  (some x0 : Option ((List (Int × (List (Int × Int × Int × (List (Int × List (Int) × List (Int))) × Int)))))) := by kernel_rfl
theorem r25 : ∀ x y, okP e25.ps x → e25.φ x = some y → ∃ n, runF tab ft25 hint25 ord25 Tryz.f25 e25.ps e25.rs e25.fr n x = some y := by
  rintro a y _ h
  obtain ⟨hs, rfl⟩ := gto_some (cs := [.l c110]) (x := a) (y := y) h
  obtain ⟨hl, he⟩ := small_l hs
  refine ⟨y.length + 1, (en25 _ y).trans (bif_true (mkCond hl (by decide)) ?_)⟩
  exact (toLoop0 (CT.dfltL c110) (fun m x i z => loopK (codeK tab ft25 hint25 ord25 b25_rrlrll (y.length + 1)) (hint25 3) m (S25_3 x i z) (Ex.block 0 (sK tab ft25 hint25 ord25 (y.length + 1) b25_rrr (retK tab Tryz.f25 true [(false, [.l c110])])))) (fun z => (Ex.block 0 (sK tab ft25 hint25 ord25 (y.length + 1) b25_rrr (retK tab Tryz.f25 true [(false, [.l c110])]))) (.exit 0) (X25_3_0 z)) (gto [.i .i64, .l c171]) (fun m x i z => st25_3 _ m _ x i z) y _ (fun x hx => gto_ok (he x hx)) hl List.length_replicate).trans (ex25_3_0 _ y)
theorem s25 : Sat Tryz.prog 25 e25 := sat_of_run Tryz.func25 (c := bodyOf Tryz.f25) (by kernel_rfl) (ne_of_dec (by kernel_rfl)) mixed tab_ok (by kernel_rfl) (ftOf_cons s64 ftOf_nil) (by kernel_rfl) (fun h => (Bool.false_ne_true h).elim) r25
/- 137 loop.example/g00513/laws.toBasis -/
def e137 : FE := ⟨[(true, [.i .i64, .l c36])], [(true, [.i .i64, .l c36])], true, false, gto [.i .i64, .l c36]⟩
noncomputable def ft137 : Nat → Option FE := ftOf [(120, e120)]
def hint137 : Nat → Hint := fun _ => {}
def ord137 : Nat → List Nat := fun _ => []
theorem en137 (n : Nat) (a0 : Int × List (List (Int))) : runF tab ft137 hint137 ord137 Tryz.f137 [(true, [.i .i64, .l c36])] [(true, [.i .i64, .l c36])] true n (a0) =
  ((gto [.l c36] a0.2).bind fun y1 =>
  some (a0.1, y1) : Option (Int × List (List (Int)))) := by kernel_rfl
theorem r137 : ∀ x y, okP e137.ps x → e137.φ x = some y → ∃ n, runF tab ft137 hint137 ord137 Tryz.f137 e137.ps e137.rs e137.fr n x = some y := by
  rintro a y _ h
  obtain ⟨hs, rfl⟩ := gto_some (cs := [.i .i64, .l c36]) (x := a) (y := y) h
  exact ⟨0, (en137 0 y).trans (gtoB (cs := [.l c36]) (small_t hs) rfl)⟩
theorem s137 : Sat Tryz.prog 137 e137 := sat_of_run Tryz.func137 (c := bodyOf Tryz.f137) (by kernel_rfl) (ne_of_dec (by kernel_rfl)) mixed tab_ok (by kernel_rfl) (ftOf_cons s120 ftOf_nil) (by kernel_rfl) (fun h => (Bool.false_ne_true h).elim) r137
/- 123 loop.example/g00513/laws.toDecoder -/
def e123 : FE := ⟨[(true, [.i .i64, .i .i64, .i .i64, .i .i64, .l c36])], [(true, [.i .i64, .i .i64, .i .i64, .i .i64, .l c36])], true, false, gto [.i .i64, .i .i64, .i .i64, .i .i64, .l c36]⟩
noncomputable def ft123 : Nat → Option FE := ftOf [(137, e137)]
def hint123 : Nat → Hint := fun _ => {}
def ord123 : Nat → List Nat := fun _ => []
theorem en123 (n : Nat) (a0 : Int × Int × Int × Int × List (List (Int))) : runF tab ft123 hint123 ord123 Tryz.f123 [(true, [.i .i64, .i .i64, .i .i64, .i .i64, .l c36])] [(true, [.i .i64, .i .i64, .i .i64, .i .i64, .l c36])] true n (a0) =
  ((gto [.i .i64, .l c36] a0.2.2.2).bind fun y1 =>
  some (a0.1, a0.2.1, a0.2.2.1, y1.1, y1.2) : Option (Int × Int × Int × Int × List (List (Int)))) := by kernel_rfl
theorem r123 : ∀ x y, okP e123.ps x → e123.φ x = some y → ∃ n, runF tab ft123 hint123 ord123 Tryz.f123 e123.ps e123.rs e123.fr n x = some y := by
  rintro a y _ h
  obtain ⟨hs, rfl⟩ := gto_some (cs := [.i .i64, .i .i64, .i .i64, .i .i64, .l c36]) (x := a) (y := y) h
  exact ⟨0, (en123 0 y).trans (gtoB (cs := [.i .i64, .l c36]) (small_c (small_h (small_t (small_t (small_t hs)))) (small_t (small_t (small_t (small_t hs))))) rfl)⟩
theorem s123 : Sat Tryz.prog 123 e123 := sat_of_run Tryz.func123 (c := bodyOf Tryz.f123) (by kernel_rfl) (ne_of_dec (by kernel_rfl)) mixed tab_ok (by kernel_rfl) (ftOf_cons s137 ftOf_nil) (by kernel_rfl) (fun h => (Bool.false_ne_true h).elim) r123
/- 101 loop.example/g00513/laws.toDecoderS -/
def e101 : FE := ⟨[(false, [.l c207])], [(false, [.l c207])], true, false, gto [.l c207]⟩
noncomputable def ft101 : Nat → Option FE := ftOf [(123, e123)]
def hint101 : Nat → Hint := fun
  | 3 => ⟨[0, 3, 4], [224], [3], [224], [], []⟩
  | _ => {}
def ord101 : Nat → List Nat := fun _ => []
noncomputable def b101_rrlrll : Code := Code.l (Code.l (Code.r (Code.l (Code.r (Code.r (bodyOf Tryz.f101))))))
noncomputable def b101_rrr : Code := Code.r (Code.r (Code.r (bodyOf Tryz.f101)))
def S101_3 (x0 : List (Int × Int × Int × Int × List (List (Int)))) (x1 : Int) (x2 : List (Int × Int × Int × Int × List (List (Int)))) : St := ⟨[.d false c207 x0, .bad, .bad, .o 224, .v (.int .i64 x1), .bad, .bad, .bad, .bad, .bad, .bad, .bad, .bad, .bad, .bad, .bad, .bad, .bad, .bad, .bad, .bad, .bad, .bad], [(224, .sl true 202 c207 x2)]⟩
def X101_3_0 (x0 : List (Int × Int × Int × Int × List (List (Int)))) : St := ⟨[.bad, .bad, .bad, .o 224, .bad, .bad, .bad, .bad, .bad, .bad, .bad, .bad, .bad, .bad, .bad, .bad, .bad, .bad, .bad, .bad, .bad, .bad, .bad], [(224, .sl true 202 c207 x0)]⟩
theorem en101 (n : Nat) (a0 : (List (Int × Int × Int × Int × List (List (Int))))) : runF tab ft101 hint101 ord101 Tryz.f101 [(false, [.l c207])] [(false, [.l c207])] true n (a0) =
  (bif decide (0 ≤ (a0.length : Int)) && decide ((a0.length : Int) ≤ (a0.length : Int)) && le47 ((a0.length : Int) * (56 : Nat)) && le63 (a0.length : Int) then
  (loopK (codeK tab ft101 hint101 ord101 b101_rrlrll n) (hint101 3) n (S101_3 a0 0 (List.replicate ((a0.length : Int).toNat) d207)) (Ex.block 0 (sK tab ft101 hint101 ord101 n b101_rrr (retK tab Tryz.f101 true [(false, [.l c207])]))))
  else (none) : Option ((List (Int × Int × Int × Int × List (List (Int)))))) := by kernel_rfl
theorem st101_3 {R : Type} (n m : Nat) (K : Ex → St → Option R) (x0 : List (Int × Int × Int × Int × List (List (Int)))) (x1 : Int) (x2 : List (Int × Int × Int × Int × List (List (Int)))) : loopK (codeK tab ft101 hint101 ord101 b101_rrlrll n) (hint101 3) (m + 1) (S101_3 x0 x1 x2) K =
  bif (decide (x1 < (x0.length : Int))) then
  (bif decide (0 ≤ x1) && decide (x1 < (x0.length : Int)) then
    ((gto [.i .i64, .i .i64, .i .i64, .i .i64, .l c36] (x0.getD x1.toNat d207)).bind fun y2 =>
      bif decide (0 ≤ x1) && decide (x1 < (x2.length : Int)) then
      (loopK (codeK tab ft101 hint101 ord101 b101_rrlrll n) (hint101 3) m (S101_3 x0 (IntKind.wrap .i64 (x1 + 1)) (x2.set x1.toNat y2)) K)
      else (none))
    else (none))
  else (K (.exit 0) (X101_3_0 x2)) := by kernel_rfl
theorem ex101_3_0 (n : Nat) (x0 : List (Int × Int × Int × Int × List (List (Int)))) : (Ex.block 0 (sK tab ft101 hint101 ord101 n b101_rrr (retK tab Tryz.f101 true [(false, [.l c207])]))) (.exit 0) (X101_3_0 x0) =
  (some x0 : Option ((List (Int × Int × Int × Int × List (List (Int)))))) := by kernel_rfl
theorem r101 : ∀ x y, okP e101.ps x → e101.φ x = some y → ∃ n, runF tab ft101 hint101 ord101 Tryz.f101 e101.ps e101.rs e101.fr n x = some y := by
  rintro a y _ h
  obtain ⟨hs, rfl⟩ := gto_some (cs := [.l c207]) (x := a) (y := y) h
  obtain ⟨hl, he⟩ := small_l hs
  refine ⟨y.length + 1, (en101 _ y).trans (bif_true (mkCond hl (by decide)) ?_)⟩
  exact (toLoop0 (CT.dfltL c207) (fun m x i z => loopK (codeK tab ft101 hint101 ord101 b101_rrlrll (y.length + 1)) (hint101 3) m (S101_3 x i z) (Ex.block 0 (sK tab ft101 hint101 ord101 (y.length + 1) b101_rrr (retK tab Tryz.f101 true [(false, [.l c207])])))) (fun z => (Ex.block 0 (sK tab ft101 hint101 ord101 (y.length + 1) b101_rrr (retK tab Tryz.f101 true [(false, [.l c207])]))) (.exit 0) (X101_3_0 z)) (gto [.i .i64, .i .i64, .i .i64, .i .i64, .l c36]) (fun m x i z => st101_3 _ m _ x i z) y _ (fun x hx => gto_ok (he x hx)) hl List.length_replicate).trans (ex101_3_0 _ y)
theorem s101 : Sat Tryz.prog 101 e101 := sat_of_run Tryz.func101 (c := bodyOf Tryz.f101) (by kernel_rfl) (ne_of_dec (by kernel_rfl)) mixed tab_ok (by kernel_rfl) (ftOf_cons s123 ftOf_nil) (by kernel_rfl) (fun h => (Bool.false_ne_true h).elim) r101
/- 65 loop.example/g00513/laws.toSink -/
def e65 : FE := ⟨[(true, [.i .i64, .i .i64, .l c3, .l c207, .l c167, .i .i64])], [(true, [.i .i64, .i .i64, .l c3, .l c207, .l c167, .i .i64])], true, false, gto [.i .i64, .i .i64, .l c3, .l c207, .l c167, .i .i64]⟩
noncomputable def ft65 : Nat → Option FE := ftOf [(27, e27), (60, e60), (101, e101)]
def hint65 : Nat → Hint := fun _ => {}
def ord65 : Nat → List Nat := fun _ => []
theorem en65 (n : Nat) (a0 : Int × Int × List (Int) × (List (Int × Int × Int × Int × List (List (Int)))) × (List (Int × List (List (Int)))) × Int) : runF tab ft65 hint65 ord65 Tryz.f65 [(true, [.i .i64, .i .i64, .l c3, .l c207, .l c167, .i .i64])] [(true, [.i .i64, .i .i64, .l c3, .l c207, .l c167, .i .i64])] true n (a0) =
  ((gto [.l c3] a0.2.2.1).bind fun y1 =>
  (gto [.l c207] a0.2.2.2.1).bind fun y2 =>
  (gto [.l c167] a0.2.2.2.2.1).bind fun y3 =>
  some (a0.1, a0.2.1, y1, y2, y3, a0.2.2.2.2.2) : Option (Int × Int × List (Int) × (List (Int × Int × Int × Int × List (List (Int)))) × (List (Int × List (List (Int)))) × Int)) := by kernel_rfl
theorem r65 : ∀ x y, okP e65.ps x → e65.φ x = some y → ∃ n, runF tab ft65 hint65 ord65 Tryz.f65 e65.ps e65.rs e65.fr n x = some y := by
  rintro a y _ h
  obtain ⟨hs, rfl⟩ := gto_some (cs := [.i .i64, .i .i64, .l c3, .l c207, .l c167, .i .i64]) (x := a) (y := y) h
  exact ⟨0, (en65 0 y).trans (gtoB (cs := [.l c3]) (small_h (small_t (small_t hs))) (gtoB (cs := [.l c207]) (small_h (small_t (small_t (small_t hs)))) (gtoB (cs := [.l c167]) (small_h (small_t (small_t (small_t (small_t hs))))) rfl)))⟩
theorem s65 : Sat Tryz.prog 65 e65 := sat_of_run Tryz.func65 (c := bodyOf Tryz.f65) (by kernel_rfl) (ne_of_dec (by kernel_rfl)) mixed tab_ok (by kernel_rfl) (ftOf_cons s27 (ftOf_cons s60 (ftOf_cons s101 ftOf_nil))) (by kernel_rfl) (fun h => (Bool.false_ne_true h).elim) r65
/- 26 loop.example/g00513/laws.toSinkS -/
def e26 : FE := ⟨[(false, [.l c114])], [(false, [.l c114])], true, false, gto [.l c114]⟩
noncomputable def ft26 : Nat → Option FE := ftOf [(65, e65)]
def hint26 : Nat → Hint := fun
  | 3 => ⟨[0, 3, 4], [224], [3], [224], [], []⟩
  | _ => {}
def ord26 : Nat → List Nat := fun _ => []
noncomputable def b26_rrlrll : Code := Code.l (Code.l (Code.r (Code.l (Code.r (Code.r (bodyOf Tryz.f26))))))
noncomputable def b26_rrr : Code := Code.r (Code.r (Code.r (bodyOf Tryz.f26)))
def S26_3 (x0 : List (Int × Int × List (Int) × (List (Int × Int × Int × Int × List (List (Int)))) × (List (Int × List (List (Int)))) × Int)) (x1 : Int) (x2 : List (Int × Int × List (Int) × (List (Int × Int × Int × Int × List (List (Int)))) × (List (Int × List (List (Int)))) × Int)) : St := ⟨[.d false c114 x0, .bad, .bad, .o 224, .v (.int .i64 x1), .bad, .bad, .bad, .bad, .bad, .bad, .bad, .bad, .bad, .bad, .bad, .bad, .bad, .bad, .bad, .bad, .bad, .bad], [(224, .sl true 136 c114 x2)]⟩
def X26_3_0 (x0 : List (Int × Int × List (Int) × (List (Int × Int × Int × Int × List (List (Int)))) × (List (Int × List (List (Int)))) × Int)) : St := ⟨[.bad, .bad, .bad, .o 224, .bad, .bad, .bad, .bad, .bad, .bad, .bad, .bad, .bad, .bad, .bad, .bad, .bad, .bad, .bad, .bad, .bad, .bad, .bad], [(224, .sl true 136 c114 x0)]⟩
theorem en26 (n : Nat) (a0 : (List (Int × Int × List (Int) × (List (Int × Int × Int × Int × List (List (Int)))) × (List (Int × List (List (Int)))) × Int))) : runF tab ft26 hint26 ord26 Tryz.f26 [(false, [.l c114])] [(false, [.l c114])] true n (a0) =
  (bif decide (0 ≤ (a0.length : Int)) && decide ((a0.length : Int) ≤ (a0.length : Int)) && le47 ((a0.length : Int) * (96 : Nat)) && le63 (a0.length : Int) then
  (loopK (codeK tab ft26 hint26 ord26 b26_rrlrll n) (hint26 3) n (S26_3 a0 0 (List.replicate ((a0.length : Int).toNat) d114)) (Ex.block 0 (sK tab ft26 hint26 ord26 n b26_rrr (retK tab Tryz.f26 true [(false, [.l c114])]))))
  else (none) : Option ((List (Int × Int × List (Int) × (List (Int × Int × Int × Int × List (List (Int)))) × (List (Int × List (List (Int)))) × Int)))) := by kernel_rfl
theorem st26_3 {R : Type} (n m : Nat) (K : Ex → St → Option R) (x0 : List (Int × Int × List (Int) × (List (Int × Int × Int × Int × List (List (Int)))) × (List (Int × List (List (Int)))) × Int)) (x1 : Int) (x2 : List (Int × Int × List (Int) × (List (Int × Int × Int × Int × List (List (Int)))) × (List (Int × List (List (Int)))) × Int)) : loopK (codeK tab ft26 hint26 ord26 b26_rrlrll n) (hint26 3) (m + 1) (S26_3 x0 x1 x2) K =
  bif (decide (x1 < (x0.length : Int))) then
  (bif decide (0 ≤ x1) && decide (x1 < (x0.length : Int)) then
    ((gto [.i .i64, .i .i64, .l c3, .l c207, .l c167, .i .i64] (x0.getD x1.toNat d114)).bind fun y2 =>
      bif decide (0 ≤ x1) && decide (x1 < (x2.length : Int)) then
      (loopK (codeK tab ft26 hint26 ord26 b26_rrlrll n) (hint26 3) m (S26_3 x0 (IntKind.wrap .i64 (x1 + 1)) (x2.set x1.toNat y2)) K)
      else (none))
    else (none))
  else (K (.exit 0) (X26_3_0 x2)) := by kernel_rfl
theorem ex26_3_0 (n : Nat) (x0 : List (Int × Int × List (Int) × (List (Int × Int × Int × Int × List (List (Int)))) × (List (Int × List (List (Int)))) × Int)) : (Ex.block 0 (sK tab ft26 hint26 ord26 n b26_rrr (retK tab Tryz.f26 true [(false, [.l c114])]))) (.exit 0) (X26_3_0 x0) =
  (some x0 : Option ((List (Int × Int × List (Int) × (List (Int × Int × Int × Int × List (List (Int)))) × (List (Int × List (List (Int)))) × Int)))) := by kernel_rfl
theorem r26 : ∀ x y, okP e26.ps x → e26.φ x = some y → ∃ n, runF tab ft26 hint26 ord26 Tryz.f26 e26.ps e26.rs e26.fr n x = some y := by
  rintro a y _ h
  obtain ⟨hs, rfl⟩ := gto_some (cs := [.l c114]) (x := a) (y := y) h
  obtain ⟨hl, he⟩ := small_l hs
  refine ⟨y.length + 1, (en26 _ y).trans (bif_true (mkCond hl (by decide)) ?_)⟩
  exact (toLoop0 (CT.dfltL c114) (fun m x i z => loopK (codeK tab ft26 hint26 ord26 b26_rrlrll (y.length + 1)) (hint26 3) m (S26_3 x i z) (Ex.block 0 (sK tab ft26 hint26 ord26 (y.length + 1) b26_rrr (retK tab Tryz.f26 true [(false, [.l c114])])))) (fun z => (Ex.block 0 (sK tab ft26 hint26 ord26 (y.length + 1) b26_rrr (retK tab Tryz.f26 true [(false, [.l c114])]))) (.exit 0) (X26_3_0 z)) (gto [.i .i64, .i .i64, .l c3, .l c207, .l c167, .i .i64]) (fun m x i z => st26_3 _ m _ x i z) y _ (fun x hx => gto_ok (he x hx)) hl List.length_replicate).trans (ex26_3_0 _ y)
theorem s26 : Sat Tryz.prog 26 e26 := sat_of_run Tryz.func26 (c := bodyOf Tryz.f26) (by kernel_rfl) (ne_of_dec (by kernel_rfl)) mixed tab_ok (by kernel_rfl) (ftOf_cons s65 ftOf_nil) (by kernel_rfl) (fun h => (Bool.false_ne_true h).elim) r26
/- 28 loop.example/g00513/laws.toHashKey -/
def e28 : FE := ⟨[(true, [.l c3])], [(true, [.l c3])], true, false, gto [.l c3]⟩
noncomputable def ft28 : Nat → Option FE := ftOf [(27, e27)]
def hint28 : Nat → Hint := fun _ => {}
def ord28 : Nat → List Nat := fun _ => []
theorem en28 (n : Nat) (a0 : List (Int)) : runF tab ft28 hint28 ord28 Tryz.f28 [(true, [.l c3])] [(true, [.l c3])] true n (a0) =
  ((gto [.l c3] a0).bind fun y1 =>
  some y1 : Option (List (Int))) := by kernel_rfl
theorem r28 : ∀ x y, okP e28.ps x → e28.φ x = some y → ∃ n, runF tab ft28 hint28 ord28 Tryz.f28 e28.ps e28.rs e28.fr n x = some y := by
  rintro a y _ h
  obtain ⟨hs, rfl⟩ := gto_some (cs := [.l c3]) (x := a) (y := y) h
  exact ⟨0, (en28 0 y).trans (gtoB (cs := [.l c3]) hs rfl)⟩
theorem s28 : Sat Tryz.prog 28 e28 := sat_of_run Tryz.func28 (c := bodyOf Tryz.f28) (by kernel_rfl) (ne_of_dec (by kernel_rfl)) mixed tab_ok (by kernel_rfl) (ftOf_cons s27 ftOf_nil) (by kernel_rfl) (fun h => (Bool.false_ne_true h).elim) r28
/- 66 loop.example/g00513/laws.toManifest -/
def e66 : FE := ⟨[(true, [.i .i64, .i .i64, .i .i64, .i .i64, .l c3, .i .i64])], [(true, [.i .i64, .i .i64, .i .i64, .i .i64, .l c3, .i .i64])], true, false, gto [.i .i64, .i .i64, .i .i64, .i .i64, .l c3, .i .i64]⟩
noncomputable def ft66 : Nat → Option FE := ftOf [(27, e27)]
def hint66 : Nat → Hint := fun _ => {}
def ord66 : Nat → List Nat := fun _ => []
theorem en66 (n : Nat) (a0 : Int × Int × Int × Int × List (Int) × Int) : runF tab ft66 hint66 ord66 Tryz.f66 [(true, [.i .i64, .i .i64, .i .i64, .i .i64, .l c3, .i .i64])] [(true, [.i .i64, .i .i64, .i .i64, .i .i64, .l c3, .i .i64])] true n (a0) =
  ((gto [.l c3] a0.2.2.2.2.1).bind fun y1 =>
  some (a0.1, a0.2.1, a0.2.2.1, a0.2.2.2.1, y1, a0.2.2.2.2.2) : Option (Int × Int × Int × Int × List (Int) × Int)) := by kernel_rfl
theorem r66 : ∀ x y, okP e66.ps x → e66.φ x = some y → ∃ n, runF tab ft66 hint66 ord66 Tryz.f66 e66.ps e66.rs e66.fr n x = some y := by
  rintro a y _ h
  obtain ⟨hs, rfl⟩ := gto_some (cs := [.i .i64, .i .i64, .i .i64, .i .i64, .l c3, .i .i64]) (x := a) (y := y) h
  exact ⟨0, (en66 0 y).trans (gtoB (cs := [.l c3]) (small_h (small_t (small_t (small_t (small_t hs))))) rfl)⟩
theorem s66 : Sat Tryz.prog 66 e66 := sat_of_run Tryz.func66 (c := bodyOf Tryz.f66) (by kernel_rfl) (ne_of_dec (by kernel_rfl)) mixed tab_ok (by kernel_rfl) (ftOf_cons s27 ftOf_nil) (by kernel_rfl) (fun h => (Bool.false_ne_true h).elim) r66
/- 29 loop.example/g00513/laws.toManifestS -/
def e29 : FE := ⟨[(false, [.l c117])], [(false, [.l c117])], true, false, gto [.l c117]⟩
noncomputable def ft29 : Nat → Option FE := ftOf [(66, e66)]
def hint29 : Nat → Hint := fun
  | 3 => ⟨[0, 3, 4], [224], [3], [224], [], []⟩
  | _ => {}
def ord29 : Nat → List Nat := fun _ => []
noncomputable def b29_rrlrll : Code := Code.l (Code.l (Code.r (Code.l (Code.r (Code.r (bodyOf Tryz.f29))))))
noncomputable def b29_rrr : Code := Code.r (Code.r (Code.r (bodyOf Tryz.f29)))
def S29_3 (x0 : List (Int × Int × Int × Int × List (Int) × Int)) (x1 : Int) (x2 : List (Int × Int × Int × Int × List (Int) × Int)) : St := ⟨[.d false c117 x0, .bad, .bad, .o 224, .v (.int .i64 x1), .bad, .bad, .bad, .bad, .bad, .bad, .bad, .bad, .bad, .bad, .bad, .bad, .bad, .bad, .bad, .bad, .bad, .bad], [(224, .sl true 138 c117 x2)]⟩
def X29_3_0 (x0 : List (Int × Int × Int × Int × List (Int) × Int)) : St := ⟨[.bad, .bad, .bad, .o 224, .bad, .bad, .bad, .bad, .bad, .bad, .bad, .bad, .bad, .bad, .bad, .bad, .bad, .bad, .bad, .bad, .bad, .bad, .bad], [(224, .sl true 138 c117 x0)]⟩
theorem en29 (n : Nat) (a0 : (List (Int × Int × Int × Int × List (Int) × Int))) : runF tab ft29 hint29 ord29 Tryz.f29 [(false, [.l c117])] [(false, [.l c117])] true n (a0) =
  (bif decide (0 ≤ (a0.length : Int)) && decide ((a0.length : Int) ≤ (a0.length : Int)) && le47 ((a0.length : Int) * (64 : Nat)) && le63 (a0.length : Int) then
  (loopK (codeK tab ft29 hint29 ord29 b29_rrlrll n) (hint29 3) n (S29_3 a0 0 (List.replicate ((a0.length : Int).toNat) d117)) (Ex.block 0 (sK tab ft29 hint29 ord29 n b29_rrr (retK tab Tryz.f29 true [(false, [.l c117])]))))
  else (none) : Option ((List (Int × Int × Int × Int × List (Int) × Int)))) := by kernel_rfl
theorem st29_3 {R : Type} (n m : Nat) (K : Ex → St → Option R) (x0 : List (Int × Int × Int × Int × List (Int) × Int)) (x1 : Int) (x2 : List (Int × Int × Int × Int × List (Int) × Int)) : loopK (codeK tab ft29 hint29 ord29 b29_rrlrll n) (hint29 3) (m + 1) (S29_3 x0 x1 x2) K =
  bif (decide (x1 < (x0.length : Int))) then
  (bif decide (0 ≤ x1) && decide (x1 < (x0.length : Int)) then
    ((gto [.i .i64, .i .i64, .i .i64, .i .i64, .l c3, .i .i64] (x0.getD x1.toNat d117)).bind fun y2 =>
      bif decide (0 ≤ x1) && decide (x1 < (x2.length : Int)) then
      (loopK (codeK tab ft29 hint29 ord29 b29_rrlrll n) (hint29 3) m (S29_3 x0 (IntKind.wrap .i64 (x1 + 1)) (x2.set x1.toNat y2)) K)
      else (none))
    else (none))
  else (K (.exit 0) (X29_3_0 x2)) := by kernel_rfl
theorem ex29_3_0 (n : Nat) (x0 : List (Int × Int × Int × Int × List (Int) × Int)) : (Ex.block 0 (sK tab ft29 hint29 ord29 n b29_rrr (retK tab Tryz.f29 true [(false, [.l c117])]))) (.exit 0) (X29_3_0 x0) =
  (some x0 : Option ((List (Int × Int × Int × Int × List (Int) × Int)))) := by kernel_rfl
theorem r29 : ∀ x y, okP e29.ps x → e29.φ x = some y → ∃ n, runF tab ft29 hint29 ord29 Tryz.f29 e29.ps e29.rs e29.fr n x = some y := by
  rintro a y _ h
  obtain ⟨hs, rfl⟩ := gto_some (cs := [.l c117]) (x := a) (y := y) h
  obtain ⟨hl, he⟩ := small_l hs
  refine ⟨y.length + 1, (en29 _ y).trans (bif_true (mkCond hl (by decide)) ?_)⟩
  exact (toLoop0 (CT.dfltL c117) (fun m x i z => loopK (codeK tab ft29 hint29 ord29 b29_rrlrll (y.length + 1)) (hint29 3) m (S29_3 x i z) (Ex.block 0 (sK tab ft29 hint29 ord29 (y.length + 1) b29_rrr (retK tab Tryz.f29 true [(false, [.l c117])])))) (fun z => (Ex.block 0 (sK tab ft29 hint29 ord29 (y.length + 1) b29_rrr (retK tab Tryz.f29 true [(false, [.l c117])]))) (.exit 0) (X29_3_0 z)) (gto [.i .i64, .i .i64, .i .i64, .i .i64, .l c3, .i .i64]) (fun m x i z => st29_3 _ m _ x i z) y _ (fun x hx => gto_ok (he x hx)) hl List.length_replicate).trans (ex29_3_0 _ y)
theorem s29 : Sat Tryz.prog 29 e29 := sat_of_run Tryz.func29 (c := bodyOf Tryz.f29) (by kernel_rfl) (ne_of_dec (by kernel_rfl)) mixed tab_ok (by kernel_rfl) (ftOf_cons s66 ftOf_nil) (by kernel_rfl) (fun h => (Bool.false_ne_true h).elim) r29
/- 102 loop.example/g00513/laws.toProof -/
def e102 : FE := ⟨[(true, [.i .i64, .i .i64, .i .i64])], [(true, [.i .i64, .i .i64, .i .i64])], true, false, gto [.i .i64, .i .i64, .i .i64]⟩
def ft102 : Nat → Option FE := ftOf []
def hint102 : Nat → Hint := fun _ => {}
def ord102 : Nat → List Nat := fun _ => []
theorem en102 (n : Nat) (a0 : Int × Int × Int) : runF tab ft102 hint102 ord102 Tryz.f102 [(true, [.i .i64, .i .i64, .i .i64])] [(true, [.i .i64, .i .i64, .i .i64])] true n (a0) =
  (some a0 : Option (Int × Int × Int)) := by kernel_rfl
theorem r102 : ∀ x y, okP e102.ps x → e102.φ x = some y → ∃ n, runF tab ft102 hint102 ord102 Tryz.f102 e102.ps e102.rs e102.fr n x = some y := by
  rintro a y _ h
  obtain ⟨hs, rfl⟩ := gto_some (cs := [.i .i64, .i .i64, .i .i64]) (x := a) (y := y) h
  exact ⟨0, (en102 0 y).trans rfl⟩
theorem s102 : Sat Tryz.prog 102 e102 := sat_of_run Tryz.func102 (c := bodyOf Tryz.f102) (by kernel_rfl) (ne_of_dec (by kernel_rfl)) mixed tab_ok (by kernel_rfl) ftOf_nil (by kernel_rfl) (fun h => (Bool.false_ne_true h).elim) r102
/- 67 loop.example/g00513/laws.toProofS -/
def e67 : FE := ⟨[(false, [.l c176])], [(false, [.l c176])], true, false, gto [.l c176]⟩
noncomputable def ft67 : Nat → Option FE := ftOf [(102, e102)]
def hint67 : Nat → Hint := fun
  | 3 => ⟨[0, 3, 4], [224], [3], [224], [], []⟩
  | _ => {}
def ord67 : Nat → List Nat := fun _ => []
noncomputable def b67_rrlrll : Code := Code.l (Code.l (Code.r (Code.l (Code.r (Code.r (bodyOf Tryz.f67))))))
noncomputable def b67_rrr : Code := Code.r (Code.r (Code.r (bodyOf Tryz.f67)))
def S67_3 (x0 : List (Int × Int × Int)) (x1 : Int) (x2 : List (Int × Int × Int)) : St := ⟨[.d false c176 x0, .bad, .bad, .o 224, .v (.int .i64 x1), .bad, .bad, .bad, .bad, .bad, .bad, .bad, .bad, .bad, .bad, .bad, .bad, .bad, .bad, .bad, .bad, .bad, .bad], [(224, .sl true 186 c176 x2)]⟩
def X67_3_0 (x0 : List (Int × Int × Int)) : St := ⟨[.bad, .bad, .bad, .o 224, .bad, .bad, .bad, .bad, .bad, .bad, .bad, .bad, .bad, .bad, .bad, .bad, .bad, .bad, .bad, .bad, .bad, .bad, .bad], [(224, .sl true 186 c176 x0)]⟩
theorem en67 (n : Nat) (a0 : (List (Int × Int × Int))) : runF tab ft67 hint67 ord67 Tryz.f67 [(false, [.l c176])] [(false, [.l c176])] true n (a0) =
  (bif decide (0 ≤ (a0.length : Int)) && decide ((a0.length : Int) ≤ (a0.length : Int)) && le47 ((a0.length : Int) * (24 : Nat)) && le63 (a0.length : Int) then
  (loopK (codeK tab ft67 hint67 ord67 b67_rrlrll n) (hint67 3) n (S67_3 a0 0 (List.replicate ((a0.length : Int).toNat) d176)) (Ex.block 0 (sK tab ft67 hint67 ord67 n b67_rrr (retK tab Tryz.f67 true [(false, [.l c176])]))))
  else (none) : Option ((List (Int × Int × Int)))) := by kernel_rfl
theorem st67_3 {R : Type} (n m : Nat) (K : Ex → St → Option R) (x0 : List (Int × Int × Int)) (x1 : Int) (x2 : List (Int × Int × Int)) : loopK (codeK tab ft67 hint67 ord67 b67_rrlrll n) (hint67 3) (m + 1) (S67_3 x0 x1 x2) K =
  bif (decide (x1 < (x0.length : Int))) then
  (bif decide (0 ≤ x1) && decide (x1 < (x0.length : Int)) then
    ((gto [.i .i64, .i .i64, .i .i64] (x0.getD x1.toNat d176)).bind fun y2 =>
      bif decide (0 ≤ x1) && decide (x1 < (x2.length : Int)) then
      (loopK (codeK tab ft67 hint67 ord67 b67_rrlrll n) (hint67 3) m (S67_3 x0 (IntKind.wrap .i64 (x1 + 1)) (x2.set x1.toNat y2)) K)
      else (none))
    else (none))
  else (K (.exit 0) (X67_3_0 x2)) := by kernel_rfl
theorem ex67_3_0 (n : Nat) (x0 : List (Int × Int × Int)) : (Ex.block 0 (sK tab ft67 hint67 ord67 n b67_rrr (retK tab Tryz.f67 true [(false, [.l c176])]))) (.exit 0) (X67_3_0 x0) =
  (some x0 : Option ((List (Int × Int × Int)))) := by kernel_rfl
theorem r67 : ∀ x y, okP e67.ps x → e67.φ x = some y → ∃ n, runF tab ft67 hint67 ord67 Tryz.f67 e67.ps e67.rs e67.fr n x = some y := by
  rintro a y _ h
  obtain ⟨hs, rfl⟩ := gto_some (cs := [.l c176]) (x := a) (y := y) h
  obtain ⟨hl, he⟩ := small_l hs
  refine ⟨y.length + 1, (en67 _ y).trans (bif_true (mkCond hl (by decide)) ?_)⟩
  exact (toLoop0 (CT.dfltL c176) (fun m x i z => loopK (codeK tab ft67 hint67 ord67 b67_rrlrll (y.length + 1)) (hint67 3) m (S67_3 x i z) (Ex.block 0 (sK tab ft67 hint67 ord67 (y.length + 1) b67_rrr (retK tab Tryz.f67 true [(false, [.l c176])])))) (fun z => (Ex.block 0 (sK tab ft67 hint67 ord67 (y.length + 1) b67_rrr (retK tab Tryz.f67 true [(false, [.l c176])]))) (.exit 0) (X67_3_0 z)) (gto [.i .i64, .i .i64, .i .i64]) (fun m x i z => st67_3 _ m _ x i z) y _ (fun x hx => gto_ok (he x hx)) hl List.length_replicate).trans (ex67_3_0 _ y)
theorem s67 : Sat Tryz.prog 67 e67 := sat_of_run Tryz.func67 (c := bodyOf Tryz.f67) (by kernel_rfl) (ne_of_dec (by kernel_rfl)) mixed tab_ok (by kernel_rfl) (ftOf_cons s102 ftOf_nil) (by kernel_rfl) (fun h => (Bool.false_ne_true h).elim) r67
/- 30 loop.example/g00513/laws.toLedger -/
def e30 : FE := ⟨[(true, [.l c176])], [(true, [.l c176])], true, false, gto [.l c176]⟩
noncomputable def ft30 : Nat → Option FE := ftOf [(67, e67)]
def hint30 : Nat → Hint := fun _ => {}
def ord30 : Nat → List Nat := fun _ => []
theorem en30 (n : Nat) (a0 : (List (Int × Int × Int))) : runF tab ft30 hint30 ord30 Tryz.f30 [(true, [.l c176])] [(true, [.l c176])] true n (a0) =
  ((gto [.l c176] a0).bind fun y1 =>
  some y1 : Option ((List (Int × Int × Int)))) := by kernel_rfl
theorem r30 : ∀ x y, okP e30.ps x → e30.φ x = some y → ∃ n, runF tab ft30 hint30 ord30 Tryz.f30 e30.ps e30.rs e30.fr n x = some y := by
  rintro a y _ h
  obtain ⟨hs, rfl⟩ := gto_some (cs := [.l c176]) (x := a) (y := y) h
  exact ⟨0, (en30 0 y).trans (gtoB (cs := [.l c176]) hs rfl)⟩
theorem s30 : Sat Tryz.prog 30 e30 := sat_of_run Tryz.func30 (c := bodyOf Tryz.f30) (by kernel_rfl) (ne_of_dec (by kernel_rfl)) mixed tab_ok (by kernel_rfl) (ftOf_cons s67 ftOf_nil) (by kernel_rfl) (fun h => (Bool.false_ne_true h).elim) r30
/- 6 loop.example/g00513/laws.toWorld -/
def e6 : FE := ⟨[(true, [.i .i64, .l c176, .l c167, .i .i64, .i .i64, .i .i64, .i .i64, .l c171, .l c176, .i .i64, .l c110, .l c114, .l c3, .l c3, .l c117, .l c176, .i .i64, .i .i64, .i .i64])], [(true, [.i .i64, .l c176, .l c167, .i .i64, .i .i64, .i .i64, .i .i64, .l c171, .l c176, .i .i64, .l c110, .l c114, .l c3, .l c3, .l c117, .l c176, .i .i64, .i .i64, .i .i64])], true, false, gto [.i .i64, .l c176, .l c167, .i .i64, .i .i64, .i .i64, .i .i64, .l c171, .l c176, .i .i64, .l c110, .l c114, .l c3, .l c3, .l c117, .l c176, .i .i64, .i .i64, .i .i64]⟩
noncomputable def ft6 : Nat → Option FE := ftOf [(23, e23), (24, e24), (25, e25), (26, e26), (27, e27), (28, e28), (29, e29), (30, e30)]
def hint6 : Nat → Hint := fun _ => {}
def ord6 : Nat → List Nat := fun _ => []
theorem en6 (n : Nat) (a0 : Int × (List (Int × Int × Int)) × (List (Int × List (List (Int)))) × Int × Int × Int × Int × (List (Int × Int × Int × (List (Int × List (Int) × List (Int))) × Int)) × (List (Int × Int × Int)) × Int × (List (Int × (List (Int × Int × Int × (List (Int × List (Int) × List (Int))) × Int)))) × (List (Int × Int × List (Int) × (List (Int × Int × Int × Int × List (List (Int)))) × (List (Int × List (List (Int)))) × Int)) × List (Int) × List (Int) × (List (Int × Int × Int × Int × List (Int) × Int)) × (List (Int × Int × Int)) × Int × Int × Int) : runF tab ft6 hint6 ord6 Tryz.f6 [(true, [.i .i64, .l c176, .l c167, .i .i64, .i .i64, .i .i64, .i .i64, .l c171, .l c176, .i .i64, .l c110, .l c114, .l c3, .l c3, .l c117, .l c176, .i .i64, .i .i64, .i .i64])] [(true, [.i .i64, .l c176, .l c167, .i .i64, .i .i64, .i .i64, .i .i64, .l c171, .l c176, .i .i64, .l c110, .l c114, .l c3, .l c3, .l c117, .l c176, .i .i64, .i .i64, .i .i64])] true n (a0) =
  ((gto [.i .i64, .l c176] (a0.1, a0.2.1)).bind fun y1 =>
  (gto [.l c167, .i .i64, .i .i64, .i .i64, .i .i64, .l c171, .l c176, .i .i64] (a0.2.2.1, a0.2.2.2.1, a0.2.2.2.2.1, a0.2.2.2.2.2.1, a0.2.2.2.2.2.2.1, a0.2.2.2.2.2.2.2.1, a0.2.2.2.2.2.2.2.2.1, a0.2.2.2.2.2.2.2.2.2.1)).bind fun y2 =>
  (gto [.l c110] a0.2.2.2.2.2.2.2.2.2.2.1).bind fun y3 =>
  (gto [.l c114] a0.2.2.2.2.2.2.2.2.2.2.2.1).bind fun y4 =>
  (gto [.l c3] a0.2.2.2.2.2.2.2.2.2.2.2.2.1).bind fun y5 =>
  (gto [.l c3] a0.2.2.2.2.2.2.2.2.2.2.2.2.2.1).bind fun y6 =>
  (gto [.l c117] a0.2.2.2.2.2.2.2.2.2.2.2.2.2.2.1).bind fun y7 =>
  (gto [.l c176] a0.2.2.2.2.2.2.2.2.2.2.2.2.2.2.2.1).bind fun y8 =>
  some (y1.1, y1.2, y2.1, y2.2.1, y2.2.2.1, y2.2.2.2.1, y2.2.2.2.2.1, y2.2.2.2.2.2.1, y2.2.2.2.2.2.2.1, y2.2.2.2.2.2.2.2, y3, y4, y5, y6, y7, y8, a0.2.2.2.2.2.2.2.2.2.2.2.2.2.2.2.2.1, a0.2.2.2.2.2.2.2.2.2.2.2.2.2.2.2.2.2.1, a0.2.2.2.2.2.2.2.2.2.2.2.2.2.2.2.2.2.2) : Option (Int × (List (Int × Int × Int)) × (List (Int × List (List (Int)))) × Int × Int × Int × Int × (List (Int × Int × Int × (List (Int × List (Int) × List (Int))) × Int)) × (List (Int × Int × Int)) × Int × (List (Int × (List (Int × Int × Int × (List (Int × List (Int) × List (Int))) × Int)))) × (List (Int × Int × List (Int) × (List (Int × Int × Int × Int × List (List (Int)))) × (List (Int × List (List (Int)))) × Int)) × List (Int) × List (Int) × (List (Int × Int × Int × Int × List (Int) × Int)) × (List (Int × Int × Int)) × Int × Int × Int)) := by kernel_rfl
theorem r6 : ∀ x y, okP e6.ps x → e6.φ x = some y → ∃ n, runF tab ft6 hint6 ord6 Tryz.f6 e6.ps e6.rs e6.fr n x = some y := by
  rintro a y _ h
  obtain ⟨hs, rfl⟩ := gto_some (cs := [.i .i64, .l c176, .l c167, .i .i64, .i .i64, .i .i64, .i .i64, .l c171, .l c176, .i .i64, .l c110, .l c114, .l c3, .l c3, .l c117, .l c176, .i .i64, .i .i64, .i .i64]) (x := a) (y := y) h
  exact ⟨0, (en6 0 y).trans (gtoB (cs := [.i .i64, .l c176]) (small_c (small_h hs) (small_h (small_t hs))) (gtoB (cs := [.l c167, .i .i64, .i .i64, .i .i64, .i .i64, .l c171, .l c176, .i .i64]) (small_c (small_h (small_t (small_t hs))) (small_c (small_h (small_t (small_t (small_t hs)))) (small_c (small_h (small_t (small_t (small_t (small_t hs))))) (small_c (small_h (small_t (small_t (small_t (small_t (small_t hs)))))) (small_c (small_h (small_t (small_t (small_t (small_t (small_t (small_t hs))))))) (small_c (small_h (small_t (small_t (small_t (small_t (small_t (small_t (small_t hs)))))))) (small_c (small_h (small_t (small_t (small_t (small_t (small_t (small_t (small_t (small_t hs))))))))) (small_h (small_t (small_t (small_t (small_t (small_t (small_t (small_t (small_t (small_t hs))))))))))))))))) (gtoB (cs := [.l c110]) (small_h (small_t (small_t (small_t (small_t (small_t (small_t (small_t (small_t (small_t (small_t hs))))))))))) (gtoB (cs := [.l c114]) (small_h (small_t (small_t (small_t (small_t (small_t (small_t (small_t (small_t (small_t (small_t (small_t hs)))))))))))) (gtoB (cs := [.l c3]) (small_h (small_t (small_t (small_t (small_t (small_t (small_t (small_t (small_t (small_t (small_t (small_t (small_t hs))))))))))))) (gtoB (cs := [.l c3]) (small_h (small_t (small_t (small_t (small_t (small_t (small_t (small_t (small_t (small_t (small_t (small_t (small_t (small_t hs)))))))))))))) (gtoB (cs := [.l c117]) (small_h (small_t (small_t (small_t (small_t (small_t (small_t (small_t (small_t (small_t (small_t (small_t (small_t (small_t (small_t hs))))))))))))))) (gtoB (cs := [.l c176]) (small_h (small_t (small_t (small_t (small_t (small_t (small_t (small_t (small_t (small_t (small_t (small_t (small_t (small_t (small_t (small_t hs)))))))))))))))) rfl))))))))⟩
theorem s6 : Sat Tryz.prog 6 e6 := sat_of_run Tryz.func6 (c := bodyOf Tryz.f6) (by kernel_rfl) (ne_of_dec (by kernel_rfl)) mixed tab_ok (by kernel_rfl) (ftOf_cons s23 (ftOf_cons s24 (ftOf_cons s25 (ftOf_cons s26 (ftOf_cons s27 (ftOf_cons s28 (ftOf_cons s29 (ftOf_cons s30 ftOf_nil)))))))) (by kernel_rfl) (fun h => (Bool.false_ne_true h).elim) r6
/- 8 loop.example/g00513/laws.eqIntS -/
noncomputable def e8 : FE := ⟨[(false, [.l c3]), (false, [.l c3])], [(false, [.b])], true, false, fun x => some (eqb x.1 x.2)⟩
def ft8 : Nat → Option FE := ftOf []
def hint8 : Nat → Hint := fun
  | 4 => ⟨[0, 1, 5], [], [], [], [4], []⟩
  | _ => {}
def ord8 : Nat → List Nat := fun
  | 6 => [0, 1, 2, 3, 4, 5, 6, 7, 8]
  | _ => []
noncomputable def b8_rrlrll : Code := Code.l (Code.l (Code.r (Code.l (Code.r (Code.r (bodyOf Tryz.f8))))))
noncomputable def b8_rrr : Code := Code.r (Code.r (Code.r (bodyOf Tryz.f8)))
def S8_4 (x0 : List (Int)) (x1 : List (Int)) (x2 : Int) : St := ⟨[.d false c3 x0, .d false c3 x1, .bad, .bad, .bad, .v (.int .i64 x2), .bad, .bad, .bad, .bad, .bad, .bad, .bad, .bad, .bad, .bad, .bad, .bad, .bad, .bad, .bad, .bad, .bad, .bad, .bad, .bad], []⟩
def X8_4_r (x0 : Bool) : St := ⟨[.bad, .bad, .bad, .bad, .v (.bool x0), .bad, .bad, .bad, .bad, .bad, .bad, .bad, .bad, .bad, .bad, .bad, .bad, .bad, .bad, .bad, .bad, .bad, .bad, .bad, .bad, .bad], []⟩
def X8_4_0 : St := ⟨[.bad, .bad, .bad, .bad, .bad, .bad, .bad, .bad, .bad, .bad, .bad, .bad, .bad, .bad, .bad, .bad, .bad, .bad, .bad, .bad, .bad, .bad, .bad, .bad, .bad, .bad], []⟩
theorem en8 (n : Nat) (a0 : List (Int)) (a1 : List (Int)) : runF tab ft8 hint8 ord8 Tryz.f8 [(false, [.l c3]), (false, [.l c3])] [(false, [.b])] true n (a0, a1) =
  (bif ((a0.length : Int) != (a1.length : Int)) then
  (some false)
  else (loopK (codeK tab ft8 hint8 ord8 b8_rrlrll n) (hint8 4) n (S8_4 a0 a1 0) (Ex.block 0 (sK tab ft8 hint8 ord8 n b8_rrr (retK tab Tryz.f8 true [(false, [.b])])))) : Option (Bool)) := by kernel_rfl
theorem st8_4 {R : Type} (n m : Nat) (K : Ex → St → Option R) (x0 : List (Int)) (x1 : List (Int)) (x2 : Int) : loopK (codeK tab ft8 hint8 ord8 b8_rrlrll n) (hint8 4) (m + 1) (S8_4 x0 x1 x2) K =
  bif (decide (x2 < (x0.length : Int))) then
  (bif decide (0 ≤ x2) && decide (x2 < (x0.length : Int)) then
    (bif decide (0 ≤ x2) && decide (x2 < (x1.length : Int)) then
      (bif ((x0.getD x2.toNat d3) != (x1.getD x2.toNat d3)) then
        (K .ret (X8_4_r false))
        else (loopK (codeK tab ft8 hint8 ord8 b8_rrlrll n) (hint8 4) m (S8_4 x0 x1 (IntKind.wrap .i64 (x2 + 1))) K))
      else (none))
    else (none))
  else (K (.exit 0) (X8_4_0 )) := by kernel_rfl
theorem ex8_4_r (n : Nat) (x0 : Bool) : (Ex.block 0 (sK tab ft8 hint8 ord8 n b8_rrr (retK tab Tryz.f8 true [(false, [.b])]))) .ret (X8_4_r x0) =
  (some x0 : Option (Bool)) := by kernel_rfl
theorem ex8_4_0 (n : Nat) : (Ex.block 0 (sK tab ft8 hint8 ord8 n b8_rrr (retK tab Tryz.f8 true [(false, [.b])]))) (.exit 0) (X8_4_0 ) =
  (some true : Option (Bool)) := by kernel_rfl
theorem r8 : ∀ x y, okP e8.ps x → e8.φ x = some y → ∃ n, runF tab ft8 hint8 ord8 Tryz.f8 e8.ps e8.rs e8.fr n x = some y := by
  rintro ⟨a, b⟩ y ok h
  obtain rfl : eqb a b = y := Option.some.inj h
  refine ⟨a.length + 1, (en8 _ a b).trans (eqHead fun hab => ?_)⟩
  exact eqLoop0 (α := Int) (CT.dfltL c3) (fun (x y : Int) => x != y) (fun x y => bne_eqb x y) (fun m x y i => loopK (codeK tab ft8 hint8 ord8 b8_rrlrll (a.length + 1)) (hint8 4) m (S8_4 x y i) (Ex.block 0 (sK tab ft8 hint8 ord8 (a.length + 1) b8_rrr (retK tab Tryz.f8 true [(false, [.b])])))) ((Ex.block 0 (sK tab ft8 hint8 ord8 (a.length + 1) b8_rrr (retK tab Tryz.f8 true [(false, [.b])]))) (.exit 0) X8_4_0) ((Ex.block 0 (sK tab ft8 hint8 ord8 (a.length + 1) b8_rrr (retK tab Tryz.f8 true [(false, [.b])]))) .ret (X8_4_r false)) (ex8_4_0 _) (ex8_4_r _ false) (fun m x y i => st8_4 _ m _ x y i) a b hab ok.1.1
theorem s8 : Sat Tryz.prog 8 e8 := sat_of_run Tryz.func8 (c := bodyOf Tryz.f8) (by kernel_rfl) (ne_of_dec (by kernel_rfl)) mixed tab_ok (by kernel_rfl) ftOf_nil (by kernel_rfl) (fun h => (Bool.false_ne_true h).elim) r8
/- 108 loop.example/g00513/laws.eqEdge -/
noncomputable def e108 : FE := ⟨[(true, [.i .i64, .i .i64, .i .i64]), (true, [.i .i64, .i .i64, .i .i64])], [(false, [.b])], true, false, fun x => some (eqb x.1 x.2)⟩
def ft108 : Nat → Option FE := ftOf []
def hint108 : Nat → Hint := fun _ => {}
def ord108 : Nat → List Nat := fun _ => []
theorem en108 (n : Nat) (a0 : Int × Int × Int) (a1 : Int × Int × Int) : runF tab ft108 hint108 ord108 Tryz.f108 [(true, [.i .i64, .i .i64, .i .i64]), (true, [.i .i64, .i .i64, .i .i64])] [(false, [.b])] true n (a0, a1) =
  (bif (a0.1 != a1.1) then
  (some false)
  else (bif (a0.2.1 != a1.2.1) then
    (some false)
    else (bif (a0.2.2 != a1.2.2) then
      (some false)
      else (some true))) : Option (Bool)) := by kernel_rfl
theorem if108 (a b : Int × Int × Int) : (a.1, a.2.1, a.2.2, ()) = (b.1, b.2.1, b.2.2, ()) ↔ a = b := by simp [Prod.ext_iff, and_assoc]
theorem r108 : ∀ x y, okP e108.ps x → e108.φ x = some y → ∃ n, runF tab ft108 hint108 ord108 Tryz.f108 e108.ps e108.rs e108.fr n x = some y := by
  rintro ⟨a, b⟩ y ok h
  obtain rfl : eqb a b = y := Option.some.inj h
  exact ⟨0, (en108 0 a b).trans ((eqPn (eqPn (eqPn eqT))).trans (congrArg some (eqb_iff (if108 a b))))⟩
theorem s108 : Sat Tryz.prog 108 e108 := sat_of_run Tryz.func108 (c := bodyOf Tryz.f108) (by kernel_rfl) (ne_of_dec (by kernel_rfl)) mixed tab_ok (by kernel_rfl) ftOf_nil (by kernel_rfl) (fun h => (Bool.false_ne_true h).elim) r108
/- 77 loop.example/g00513/laws.eqEdgeS -/
noncomputable def e77 : FE := ⟨[(false, [.l c176]), (false, [.l c176])], [(false, [.b])], true, false, fun x => some (eqb x.1 x.2)⟩
noncomputable def ft77 : Nat → Option FE := ftOf [(108, e108)]
def hint77 : Nat → Hint := fun
  | 4 => ⟨[0, 1, 5], [], [], [], [4], []⟩
  | _ => {}
def ord77 : Nat → List Nat := fun
  | 6 => [0, 1, 2, 3, 4, 5, 6, 7, 8, 9]
  | _ => []
noncomputable def b77_rrlrll : Code := Code.l (Code.l (Code.r (Code.l (Code.r (Code.r (bodyOf Tryz.f77))))))
noncomputable def b77_rrr : Code := Code.r (Code.r (Code.r (bodyOf Tryz.f77)))
def S77_4 (x0 : List (Int × Int × Int)) (x1 : List (Int × Int × Int)) (x2 : Int) : St := ⟨[.d false c176 x0, .d false c176 x1, .bad, .bad, .bad, .v (.int .i64 x2), .bad, .bad, .bad, .bad, .bad, .bad, .bad, .bad, .bad, .bad, .bad, .bad, .bad, .bad, .bad, .bad, .bad, .bad, .bad, .bad, .bad], []⟩
def X77_4_r (x0 : Bool) : St := ⟨[.bad, .bad, .bad, .bad, .v (.bool x0), .bad, .bad, .bad, .bad, .bad, .bad, .bad, .bad, .bad, .bad, .bad, .bad, .bad, .bad, .bad, .bad, .bad, .bad, .bad, .bad, .bad, .bad], []⟩
def X77_4_0 : St := ⟨[.bad, .bad, .bad, .bad, .bad, .bad, .bad, .bad, .bad, .bad, .bad, .bad, .bad, .bad, .bad, .bad, .bad, .bad, .bad, .bad, .bad, .bad, .bad, .bad, .bad, .bad, .bad], []⟩
theorem en77 (n : Nat) (a0 : (List (Int × Int × Int))) (a1 : (List (Int × Int × Int))) : runF tab ft77 hint77 ord77 Tryz.f77 [(false, [.l c176]), (false, [.l c176])] [(false, [.b])] true n (a0, a1) =
  (bif ((a0.length : Int) != (a1.length : Int)) then
  (some false)
  else (loopK (codeK tab ft77 hint77 ord77 b77_rrlrll n) (hint77 4) n (S77_4 a0 a1 0) (Ex.block 0 (sK tab ft77 hint77 ord77 n b77_rrr (retK tab Tryz.f77 true [(false, [.b])])))) : Option (Bool)) := by kernel_rfl
theorem st77_4 {R : Type} (n m : Nat) (K : Ex → St → Option R) (x0 : List (Int × Int × Int)) (x1 : List (Int × Int × Int)) (x2 : Int) : loopK (codeK tab ft77 hint77 ord77 b77_rrlrll n) (hint77 4) (m + 1) (S77_4 x0 x1 x2) K =
  bif (decide (x2 < (x0.length : Int))) then
  (bif decide (0 ≤ x2) && decide (x2 < (x0.length : Int)) then
    (bif decide (0 ≤ x2) && decide (x2 < (x1.length : Int)) then
      (bif (!(eqb (x0.getD x2.toNat d176) (x1.getD x2.toNat d176))) then
        (K .ret (X77_4_r false))
        else (loopK (codeK tab ft77 hint77 ord77 b77_rrlrll n) (hint77 4) m (S77_4 x0 x1 (IntKind.wrap .i64 (x2 + 1))) K))
      else (none))
    else (none))
  else (K (.exit 0) (X77_4_0 )) := by kernel_rfl
theorem ex77_4_r (n : Nat) (x0 : Bool) : (Ex.block 0 (sK tab ft77 hint77 ord77 n b77_rrr (retK tab Tryz.f77 true [(false, [.b])]))) .ret (X77_4_r x0) =
  (some x0 : Option (Bool)) := by kernel_rfl
theorem ex77_4_0 (n : Nat) : (Ex.block 0 (sK tab ft77 hint77 ord77 n b77_rrr (retK tab Tryz.f77 true [(false, [.b])]))) (.exit 0) (X77_4_0 ) =
  (some true : Option (Bool)) := by kernel_rfl
theorem r77 : ∀ x y, okP e77.ps x → e77.φ x = some y → ∃ n, runF tab ft77 hint77 ord77 Tryz.f77 e77.ps e77.rs e77.fr n x = some y := by
  rintro ⟨a, b⟩ y ok h
  obtain rfl : eqb a b = y := Option.some.inj h
  refine ⟨a.length + 1, (en77 _ a b).trans (eqHead fun hab => ?_)⟩
  exact eqLoop0 (CT.dfltL c176) (fun x y => !(eqb x y)) (fun _ _ => rfl) (fun m x y i => loopK (codeK tab ft77 hint77 ord77 b77_rrlrll (a.length + 1)) (hint77 4) m (S77_4 x y i) (Ex.block 0 (sK tab ft77 hint77 ord77 (a.length + 1) b77_rrr (retK tab Tryz.f77 true [(false, [.b])])))) ((Ex.block 0 (sK tab ft77 hint77 ord77 (a.length + 1) b77_rrr (retK tab Tryz.f77 true [(false, [.b])]))) (.exit 0) X77_4_0) ((Ex.block 0 (sK tab ft77 hint77 ord77 (a.length + 1) b77_rrr (retK tab Tryz.f77 true [(false, [.b])]))) .ret (X77_4_r false)) (ex77_4_0 _) (ex77_4_r _ false) (fun m x y i => st77_4 _ m _ x y i) a b hab ok.1.1
theorem s77 : Sat Tryz.prog 77 e77 := sat_of_run Tryz.func77 (c := bodyOf Tryz.f77) (by kernel_rfl) (ne_of_dec (by kernel_rfl)) mixed tab_ok (by kernel_rfl) (ftOf_cons s108 ftOf_nil) (by kernel_rfl) (fun h => (Bool.false_ne_true h).elim) r77
/- 33 loop.example/g00513/laws.eqGraph -/
noncomputable def e33 : FE := ⟨[(true, [.i .i64, .l c176]), (true, [.i .i64, .l c176])], [(false, [.b])], true, false, fun x => some (eqb x.1 x.2)⟩
noncomputable def ft33 : Nat → Option FE := ftOf [(77, e77)]
def hint33 : Nat → Hint := fun _ => {}
def ord33 : Nat → List Nat := fun _ => []
theorem en33 (n : Nat) (a0 : Int × (List (Int × Int × Int))) (a1 : Int × (List (Int × Int × Int))) : runF tab ft33 hint33 ord33 Tryz.f33 [(true, [.i .i64, .l c176]), (true, [.i .i64, .l c176])] [(false, [.b])] true n (a0, a1) =
  (bif (a0.1 != a1.1) then
  (some false)
  else (bif (!(eqb a0.2 a1.2)) then
    (some false)
    else (some true)) : Option (Bool)) := by kernel_rfl
theorem if33 (a b : Int × (List (Int × Int × Int))) : (a.1, a.2, ()) = (b.1, b.2, ()) ↔ a = b := by simp [Prod.ext_iff, and_assoc]
theorem r33 : ∀ x y, okP e33.ps x → e33.φ x = some y → ∃ n, runF tab ft33 hint33 ord33 Tryz.f33 e33.ps e33.rs e33.fr n x = some y := by
  rintro ⟨a, b⟩ y ok h
  obtain rfl : eqb a b = y := Option.some.inj h
  exact ⟨0, (en33 0 a b).trans ((eqPn (eqP eqT)).trans (congrArg some (eqb_iff (if33 a b))))⟩
theorem s33 : Sat Tryz.prog 33 e33 := sat_of_run Tryz.func33 (c := bodyOf Tryz.f33) (by kernel_rfl) (ne_of_dec (by kernel_rfl)) mixed tab_ok (by kernel_rfl) (ftOf_cons s77 ftOf_nil) (by kernel_rfl) (fun h => (Bool.false_ne_true h).elim) r33
/- 130 loop.example/g00513/laws.eqIntSS -/
noncomputable def e130 : FE := ⟨[(false, [.l c36]), (false, [.l c36])], [(false, [.b])], true, false, fun x => some (eqb x.1 x.2)⟩
noncomputable def ft130 : Nat → Option FE := ftOf [(8, e8)]
def hint130 : Nat → Hint := fun
  | 4 => ⟨[0, 1, 5], [], [], [], [4], []⟩
  | _ => {}
def ord130 : Nat → List Nat := fun
  | 6 => [0, 1, 2, 3, 4, 5, 6, 7, 8, 9]
  | _ => []
noncomputable def b130_rrlrll : Code := Code.l (Code.l (Code.r (Code.l (Code.r (Code.r (bodyOf Tryz.f130))))))
noncomputable def b130_rrr : Code := Code.r (Code.r (Code.r (bodyOf Tryz.f130)))
def S130_4 (x0 : List (List (Int))) (x1 : List (List (Int))) (x2 : Int) : St := ⟨[.d false c36 x0, .d false c36 x1, .bad, .bad, .bad, .v (.int .i64 x2), .bad, .bad, .bad, .bad, .bad, .bad, .bad, .bad, .bad, .bad, .bad, .bad, .bad, .bad, .bad, .bad, .bad, .bad, .bad, .bad, .bad], []⟩
def X130_4_r (x0 : Bool) : St := ⟨[.bad, .bad, .bad, .bad, .v (.bool x0), .bad, .bad, .bad, .bad, .bad, .bad, .bad, .bad, .bad, .bad, .bad, .bad, .bad, .bad, .bad, .bad, .bad, .bad, .bad, .bad, .bad, .bad], []⟩
def X130_4_0 : St := ⟨[.bad, .bad, .bad, .bad, .bad, .bad, .bad, .bad, .bad, .bad, .bad, .bad, .bad, .bad, .bad, .bad, .bad, .bad, .bad, .bad, .bad, .bad, .bad, .bad, .bad, .bad, .bad], []⟩
theorem en130 (n : Nat) (a0 : List (List (Int))) (a1 : List (List (Int))) : runF tab ft130 hint130 ord130 Tryz.f130 [(false, [.l c36]), (false, [.l c36])] [(false, [.b])] true n (a0, a1) =
  (bif ((a0.length : Int) != (a1.length : Int)) then
  (some false)
  else (loopK (codeK tab ft130 hint130 ord130 b130_rrlrll n) (hint130 4) n (S130_4 a0 a1 0) (Ex.block 0 (sK tab ft130 hint130 ord130 n b130_rrr (retK tab Tryz.f130 true [(false, [.b])])))) : Option (Bool)) := by kernel_rfl
theorem st130_4 {R : Type} (n m : Nat) (K : Ex → St → Option R) (x0 : List (List (Int))) (x1 : List (List (Int))) (x2 : Int) : loopK (codeK tab ft130 hint130 ord130 b130_rrlrll n) (hint130 4) (m + 1) (S130_4 x0 x1 x2) K =
  bif (decide (x2 < (x0.length : Int))) then
  (bif decide (0 ≤ x2) && decide (x2 < (x0.length : Int)) then
    (bif decide (0 ≤ x2) && decide (x2 < (x1.length : Int)) then
      (bif (!(eqb (x0.getD x2.toNat d36) (x1.getD x2.toNat d36))) then
        (K .ret (X130_4_r false))
        else (loopK (codeK tab ft130 hint130 ord130 b130_rrlrll n) (hint130 4) m (S130_4 x0 x1 (IntKind.wrap .i64 (x2 + 1))) K))
      else (none))
    else (none))
  else (K (.exit 0) (X130_4_0 )) := by kernel_rfl
theorem ex130_4_r (n : Nat) (x0 : Bool) : (Ex.block 0 (sK tab ft130 hint130 ord130 n b130_rrr (retK tab Tryz.f130 true [(false, [.b])]))) .ret (X130_4_r x0) =
  (some x0 : Option (Bool)) := by kernel_rfl
theorem ex130_4_0 (n : Nat) : (Ex.block 0 (sK tab ft130 hint130 ord130 n b130_rrr (retK tab Tryz.f130 true [(false, [.b])]))) (.exit 0) (X130_4_0 ) =
  (some true : Option (Bool)) := by kernel_rfl
theorem r130 : ∀ x y, okP e130.ps x → e130.φ x = some y → ∃ n, runF tab ft130 hint130 ord130 Tryz.f130 e130.ps e130.rs e130.fr n x = some y := by
  rintro ⟨a, b⟩ y ok h
  obtain rfl : eqb a b = y := Option.some.inj h
  refine ⟨a.length + 1, (en130 _ a b).trans (eqHead fun hab => ?_)⟩
  exact eqLoop0 (CT.dfltL c36) (fun x y => !(eqb x y)) (fun _ _ => rfl) (fun m x y i => loopK (codeK tab ft130 hint130 ord130 b130_rrlrll (a.length + 1)) (hint130 4) m (S130_4 x y i) (Ex.block 0 (sK tab ft130 hint130 ord130 (a.length + 1) b130_rrr (retK tab Tryz.f130 true [(false, [.b])])))) ((Ex.block 0 (sK tab ft130 hint130 ord130 (a.length + 1) b130_rrr (retK tab Tryz.f130 true [(false, [.b])]))) (.exit 0) X130_4_0) ((Ex.block 0 (sK tab ft130 hint130 ord130 (a.length + 1) b130_rrr (retK tab Tryz.f130 true [(false, [.b])]))) .ret (X130_4_r false)) (ex130_4_0 _) (ex130_4_r _ false) (fun m x y i => st130_4 _ m _ x y i) a b hab ok.1.1
theorem s130 : Sat Tryz.prog 130 e130 := sat_of_run Tryz.func130 (c := bodyOf Tryz.f130) (by kernel_rfl) (ne_of_dec (by kernel_rfl)) mixed tab_ok (by kernel_rfl) (ftOf_cons s8 ftOf_nil) (by kernel_rfl) (fun h => (Bool.false_ne_true h).elim) r130
/- 109 loop.example/g00513/laws.eqGeneration -/
noncomputable def e109 : FE := ⟨[(true, [.i .i64, .l c36]), (true, [.i .i64, .l c36])], [(false, [.b])], true, false, fun x => some (eqb x.1 x.2)⟩
noncomputable def ft109 : Nat → Option FE := ftOf [(130, e130)]
def hint109 : Nat → Hint := fun _ => {}
def ord109 : Nat → List Nat := fun _ => []
theorem en109 (n : Nat) (a0 : Int × List (List (Int))) (a1 : Int × List (List (Int))) : runF tab ft109 hint109 ord109 Tryz.f109 [(true, [.i .i64, .l c36]), (true, [.i .i64, .l c36])] [(false, [.b])] true n (a0, a1) =
  (bif (a0.1 != a1.1) then
  (some false)
  else (bif (!(eqb a0.2 a1.2)) then
    (some false)
    else (some true)) : Option (Bool)) := by kernel_rfl
theorem if109 (a b : Int × List (List (Int))) : (a.1, a.2, ()) = (b.1, b.2, ()) ↔ a = b := by simp [Prod.ext_iff, and_assoc]
theorem r109 : ∀ x y, okP e109.ps x → e109.φ x = some y → ∃ n, runF tab ft109 hint109 ord109 Tryz.f109 e109.ps e109.rs e109.fr n x = some y := by
  rintro ⟨a, b⟩ y ok h
  obtain rfl : eqb a b = y := Option.some.inj h
  exact ⟨0, (en109 0 a b).trans ((eqPn (eqP eqT)).trans (congrArg some (eqb_iff (if109 a b))))⟩
theorem s109 : Sat Tryz.prog 109 e109 := sat_of_run Tryz.func109 (c := bodyOf Tryz.f109) (by kernel_rfl) (ne_of_dec (by kernel_rfl)) mixed tab_ok (by kernel_rfl) (ftOf_cons s130 ftOf_nil) (by kernel_rfl) (fun h => (Bool.false_ne_true h).elim) r109
/- 78 loop.example/g00513/laws.eqGenerationS -/
noncomputable def e78 : FE := ⟨[(false, [.l c167]), (false, [.l c167])], [(false, [.b])], true, false, fun x => some (eqb x.1 x.2)⟩
noncomputable def ft78 : Nat → Option FE := ftOf [(109, e109)]
def hint78 : Nat → Hint := fun
  | 4 => ⟨[0, 1, 5], [], [], [], [4], []⟩
  | _ => {}
def ord78 : Nat → List Nat := fun
  | 6 => [0, 1, 2, 3, 4, 5, 6, 7, 8, 9]
  | _ => []
noncomputable def b78_rrlrll : Code := Code.l (Code.l (Code.r (Code.l (Code.r (Code.r (bodyOf Tryz.f78))))))
noncomputable def b78_rrr : Code := Code.r (Code.r (Code.r (bodyOf Tryz.f78)))
def S78_4 (x0 : List (Int × List (List (Int)))) (x1 : List (Int × List (List (Int)))) (x2 : Int) : St := ⟨[.d false c167 x0, .d false c167 x1, .bad, .bad, .bad, .v (.int .i64 x2), .bad, .bad, .bad, .bad, .bad, .bad, .bad, .bad, .bad, .bad, .bad, .bad, .bad, .bad, .bad, .bad, .bad, .bad, .bad, .bad, .bad], []⟩
def X78_4_r (x0 : Bool) : St := ⟨[.bad, .bad, .bad, .bad, .v (.bool x0), .bad, .bad, .bad, .bad, .bad, .bad, .bad, .bad, .bad, .bad, .bad, .bad, .bad, .bad, .bad, .bad, .bad, .bad, .bad, .bad, .bad, .bad], []⟩
def X78_4_0 : St := ⟨[.bad, .bad, .bad, .bad, .bad, .bad, .bad, .bad, .bad, .bad, .bad, .bad, .bad, .bad, .bad, .bad, .bad, .bad, .bad, .bad, .bad, .bad, .bad, .bad, .bad, .bad, .bad], []⟩
theorem en78 (n : Nat) (a0 : (List (Int × List (List (Int))))) (a1 : (List (Int × List (List (Int))))) : runF tab ft78 hint78 ord78 Tryz.f78 [(false, [.l c167]), (false, [.l c167])] [(false, [.b])] true n (a0, a1) =
  (bif ((a0.length : Int) != (a1.length : Int)) then
  (some false)
  else (loopK (codeK tab ft78 hint78 ord78 b78_rrlrll n) (hint78 4) n (S78_4 a0 a1 0) (Ex.block 0 (sK tab ft78 hint78 ord78 n b78_rrr (retK tab Tryz.f78 true [(false, [.b])])))) : Option (Bool)) := by kernel_rfl
theorem st78_4 {R : Type} (n m : Nat) (K : Ex → St → Option R) (x0 : List (Int × List (List (Int)))) (x1 : List (Int × List (List (Int)))) (x2 : Int) : loopK (codeK tab ft78 hint78 ord78 b78_rrlrll n) (hint78 4) (m + 1) (S78_4 x0 x1 x2) K =
  bif (decide (x2 < (x0.length : Int))) then
  (bif decide (0 ≤ x2) && decide (x2 < (x0.length : Int)) then
    (bif decide (0 ≤ x2) && decide (x2 < (x1.length : Int)) then
      (bif (!(eqb (x0.getD x2.toNat d167) (x1.getD x2.toNat d167))) then
        (K .ret (X78_4_r false))
        else (loopK (codeK tab ft78 hint78 ord78 b78_rrlrll n) (hint78 4) m (S78_4 x0 x1 (IntKind.wrap .i64 (x2 + 1))) K))
      else (none))
    else (none))
  else (K (.exit 0) (X78_4_0 )) := by kernel_rfl
theorem ex78_4_r (n : Nat) (x0 : Bool) : (Ex.block 0 (sK tab ft78 hint78 ord78 n b78_rrr (retK tab Tryz.f78 true [(false, [.b])]))) .ret (X78_4_r x0) =
  (some x0 : Option (Bool)) := by kernel_rfl
theorem ex78_4_0 (n : Nat) : (Ex.block 0 (sK tab ft78 hint78 ord78 n b78_rrr (retK tab Tryz.f78 true [(false, [.b])]))) (.exit 0) (X78_4_0 ) =
  (some true : Option (Bool)) := by kernel_rfl
theorem r78 : ∀ x y, okP e78.ps x → e78.φ x = some y → ∃ n, runF tab ft78 hint78 ord78 Tryz.f78 e78.ps e78.rs e78.fr n x = some y := by
  rintro ⟨a, b⟩ y ok h
  obtain rfl : eqb a b = y := Option.some.inj h
  refine ⟨a.length + 1, (en78 _ a b).trans (eqHead fun hab => ?_)⟩
  exact eqLoop0 (CT.dfltL c167) (fun x y => !(eqb x y)) (fun _ _ => rfl) (fun m x y i => loopK (codeK tab ft78 hint78 ord78 b78_rrlrll (a.length + 1)) (hint78 4) m (S78_4 x y i) (Ex.block 0 (sK tab ft78 hint78 ord78 (a.length + 1) b78_rrr (retK tab Tryz.f78 true [(false, [.b])])))) ((Ex.block 0 (sK tab ft78 hint78 ord78 (a.length + 1) b78_rrr (retK tab Tryz.f78 true [(false, [.b])]))) (.exit 0) X78_4_0) ((Ex.block 0 (sK tab ft78 hint78 ord78 (a.length + 1) b78_rrr (retK tab Tryz.f78 true [(false, [.b])]))) .ret (X78_4_r false)) (ex78_4_0 _) (ex78_4_r _ false) (fun m x y i => st78_4 _ m _ x y i) a b hab ok.1.1
theorem s78 : Sat Tryz.prog 78 e78 := sat_of_run Tryz.func78 (c := bodyOf Tryz.f78) (by kernel_rfl) (ne_of_dec (by kernel_rfl)) mixed tab_ok (by kernel_rfl) (ftOf_cons s109 ftOf_nil) (by kernel_rfl) (fun h => (Bool.false_ne_true h).elim) r78
/- 79 loop.example/g00513/laws.eqSendWindow -/
noncomputable def e79 : FE := ⟨[(true, [.i .i64, .i .i64, .i .i64, .i .i64]), (true, [.i .i64, .i .i64, .i .i64, .i .i64])], [(false, [.b])], true, false, fun x => some (eqb x.1 x.2)⟩
def ft79 : Nat → Option FE := ftOf []
def hint79 : Nat → Hint := fun _ => {}
def ord79 : Nat → List Nat := fun _ => []
theorem en79 (n : Nat) (a0 : Int × Int × Int × Int) (a1 : Int × Int × Int × Int) : runF tab ft79 hint79 ord79 Tryz.f79 [(true, [.i .i64, .i .i64, .i .i64, .i .i64]), (true, [.i .i64, .i .i64, .i .i64, .i .i64])] [(false, [.b])] true n (a0, a1) =
  (bif (a0.1 != a1.1) then
  (some false)
  else (bif (a0.2.1 != a1.2.1) then
    (some false)
    else (bif (a0.2.2.1 != a1.2.2.1) then
      (some false)
      else (bif (a0.2.2.2 != a1.2.2.2) then
        (some false)
        else (some true)))) : Option (Bool)) := by kernel_rfl
theorem if79 (a b : Int × Int × Int × Int) : (a.1, a.2.1, a.2.2.1, a.2.2.2, ()) = (b.1, b.2.1, b.2.2.1, b.2.2.2, ()) ↔ a = b := by simp [Prod.ext_iff, and_assoc]
theorem r79 : ∀ x y, okP e79.ps x → e79.φ x = some y → ∃ n, runF tab ft79 hint79 ord79 Tryz.f79 e79.ps e79.rs e79.fr n x = some y := by
  rintro ⟨a, b⟩ y ok h
  obtain rfl : eqb a b = y := Option.some.inj h
  exact ⟨0, (en79 0 a b).trans ((eqPn (eqPn (eqPn (eqPn eqT)))).trans (congrArg some (eqb_iff (if79 a b))))⟩
theorem s79 : Sat Tryz.prog 79 e79 := sat_of_run Tryz.func79 (c := bodyOf Tryz.f79) (by kernel_rfl) (ne_of_dec (by kernel_rfl)) mixed tab_ok (by kernel_rfl) ftOf_nil (by kernel_rfl) (fun h => (Bool.false_ne_true h).elim) r79
/- 150 loop.example/g00513/laws.eqCodedPacket -/
noncomputable def e150 : FE := ⟨[(true, [.i .i64, .l c3, .l c3]), (true, [.i .i64, .l c3, .l c3])], [(false, [.b])], true, false, fun x => some (eqb x.1 x.2)⟩
noncomputable def ft150 : Nat → Option FE := ftOf [(8, e8)]
def hint150 : Nat → Hint := fun _ => {}
def ord150 : Nat → List Nat := fun _ => []
theorem en150 (n : Nat) (a0 : Int × List (Int) × List (Int)) (a1 : Int × List (Int) × List (Int)) : runF tab ft150 hint150 ord150 Tryz.f150 [(true, [.i .i64, .l c3, .l c3]), (true, [.i .i64, .l c3, .l c3])] [(false, [.b])] true n (a0, a1) =
  (bif (a0.1 != a1.1) then
  (some false)
  else (bif (!(eqb a0.2.1 a1.2.1)) then
    (some false)
    else (bif (!(eqb a0.2.2 a1.2.2)) then
      (some false)
      else (some true))) : Option (Bool)) := by kernel_rfl
theorem if150 (a b : Int × List (Int) × List (Int)) : (a.1, a.2.1, a.2.2, ()) = (b.1, b.2.1, b.2.2, ()) ↔ a = b := by simp [Prod.ext_iff, and_assoc]
theorem r150 : ∀ x y, okP e150.ps x → e150.φ x = some y → ∃ n, runF tab ft150 hint150 ord150 Tryz.f150 e150.ps e150.rs e150.fr n x = some y := by
  rintro ⟨a, b⟩ y ok h
  obtain rfl : eqb a b = y := Option.some.inj h
  exact ⟨0, (en150 0 a b).trans ((eqPn (eqP (eqP eqT))).trans (congrArg some (eqb_iff (if150 a b))))⟩
theorem s150 : Sat Tryz.prog 150 e150 := sat_of_run Tryz.func150 (c := bodyOf Tryz.f150) (by kernel_rfl) (ne_of_dec (by kernel_rfl)) mixed tab_ok (by kernel_rfl) (ftOf_cons s8 ftOf_nil) (by kernel_rfl) (fun h => (Bool.false_ne_true h).elim) r150
/- 131 loop.example/g00513/laws.eqCodedPacketS -/
noncomputable def e131 : FE := ⟨[(false, [.l c228]), (false, [.l c228])], [(false, [.b])], true, false, fun x => some (eqb x.1 x.2)⟩
noncomputable def ft131 : Nat → Option FE := ftOf [(150, e150)]
def hint131 : Nat → Hint := fun
  | 4 => ⟨[0, 1, 5], [], [], [], [4], []⟩
  | _ => {}
def ord131 : Nat → List Nat := fun
  | 6 => [0, 1, 2, 3, 4, 5, 6, 7, 8, 9]
  | _ => []
noncomputable def b131_rrlrll : Code := Code.l (Code.l (Code.r (Code.l (Code.r (Code.r (bodyOf Tryz.f131))))))
noncomputable def b131_rrr : Code := Code.r (Code.r (Code.r (bodyOf Tryz.f131)))
def S131_4 (x0 : List (Int × List (Int) × List (Int))) (x1 : List (Int × List (Int) × List (Int))) (x2 : Int) : St := ⟨[.d false c228 x0, .d false c228 x1, .bad, .bad, .bad, .v (.int .i64 x2), .bad, .bad, .bad, .bad, .bad, .bad, .bad, .bad, .bad, .bad, .bad, .bad, .bad, .bad, .bad, .bad, .bad, .bad, .bad, .bad, .bad], []⟩
def X131_4_r (x0 : Bool) : St := ⟨[.bad, .bad, .bad, .bad, .v (.bool x0), .bad, .bad, .bad, .bad, .bad, .bad, .bad, .bad, .bad, .bad, .bad, .bad, .bad, .bad, .bad, .bad, .bad, .bad, .bad, .bad, .bad, .bad], []⟩
def X131_4_0 : St := ⟨[.bad, .bad, .bad, .bad, .bad, .bad, .bad, .bad, .bad, .bad, .bad, .bad, .bad, .bad, .bad, .bad, .bad, .bad, .bad, .bad, .bad, .bad, .bad, .bad, .bad, .bad, .bad], []⟩
theorem en131 (n : Nat) (a0 : (List (Int × List (Int) × List (Int)))) (a1 : (List (Int × List (Int) × List (Int)))) : runF tab ft131 hint131 ord131 Tryz.f131 [(false, [.l c228]), (false, [.l c228])] [(false, [.b])] true n (a0, a1) =
  (bif ((a0.length : Int) != (a1.length : Int)) then
  (some false)
  else (loopK (codeK tab ft131 hint131 ord131 b131_rrlrll n) (hint131 4) n (S131_4 a0 a1 0) (Ex.block 0 (sK tab ft131 hint131 ord131 n b131_rrr (retK tab Tryz.f131 true [(false, [.b])])))) : Option (Bool)) := by kernel_rfl
theorem st131_4 {R : Type} (n m : Nat) (K : Ex → St → Option R) (x0 : List (Int × List (Int) × List (Int))) (x1 : List (Int × List (Int) × List (Int))) (x2 : Int) : loopK (codeK tab ft131 hint131 ord131 b131_rrlrll n) (hint131 4) (m + 1) (S131_4 x0 x1 x2) K =
  bif (decide (x2 < (x0.length : Int))) then
  (bif decide (0 ≤ x2) && decide (x2 < (x0.length : Int)) then
    (bif decide (0 ≤ x2) && decide (x2 < (x1.length : Int)) then
      (bif (!(eqb (x0.getD x2.toNat d228) (x1.getD x2.toNat d228))) then
        (K .ret (X131_4_r false))
        else (loopK (codeK tab ft131 hint131 ord131 b131_rrlrll n) (hint131 4) m (S131_4 x0 x1 (IntKind.wrap .i64 (x2 + 1))) K))
      else (none))
    else (none))
  else (K (.exit 0) (X131_4_0 )) := by kernel_rfl
theorem ex131_4_r (n : Nat) (x0 : Bool) : (Ex.block 0 (sK tab ft131 hint131 ord131 n b131_rrr (retK tab Tryz.f131 true [(false, [.b])]))) .ret (X131_4_r x0) =
  (some x0 : Option (Bool)) := by kernel_rfl
theorem ex131_4_0 (n : Nat) : (Ex.block 0 (sK tab ft131 hint131 ord131 n b131_rrr (retK tab Tryz.f131 true [(false, [.b])]))) (.exit 0) (X131_4_0 ) =
  (some true : Option (Bool)) := by kernel_rfl
theorem r131 : ∀ x y, okP e131.ps x → e131.φ x = some y → ∃ n, runF tab ft131 hint131 ord131 Tryz.f131 e131.ps e131.rs e131.fr n x = some y := by
  rintro ⟨a, b⟩ y ok h
  obtain rfl : eqb a b = y := Option.some.inj h
  refine ⟨a.length + 1, (en131 _ a b).trans (eqHead fun hab => ?_)⟩
  exact eqLoop0 (CT.dfltL c228) (fun x y => !(eqb x y)) (fun _ _ => rfl) (fun m x y i => loopK (codeK tab ft131 hint131 ord131 b131_rrlrll (a.length + 1)) (hint131 4) m (S131_4 x y i) (Ex.block 0 (sK tab ft131 hint131 ord131 (a.length + 1) b131_rrr (retK tab Tryz.f131 true [(false, [.b])])))) ((Ex.block 0 (sK tab ft131 hint131 ord131 (a.length + 1) b131_rrr (retK tab Tryz.f131 true [(false, [.b])]))) (.exit 0) X131_4_0) ((Ex.block 0 (sK tab ft131 hint131 ord131 (a.length + 1) b131_rrr (retK tab Tryz.f131 true [(false, [.b])]))) .ret (X131_4_r false)) (ex131_4_0 _) (ex131_4_r _ false) (fun m x y i => st131_4 _ m _ x y i) a b hab ok.1.1
theorem s131 : Sat Tryz.prog 131 e131 := sat_of_run Tryz.func131 (c := bodyOf Tryz.f131) (by kernel_rfl) (ne_of_dec (by kernel_rfl)) mixed tab_ok (by kernel_rfl) (ftOf_cons s150 ftOf_nil) (by kernel_rfl) (fun h => (Bool.false_ne_true h).elim) r131
/- 110 loop.example/g00513/laws.eqRecoder -/
noncomputable def e110 : FE := ⟨[(true, [.i .i64, .i .i64, .i .i64, .l c228, .i .i64]), (true, [.i .i64, .i .i64, .i .i64, .l c228, .i .i64])], [(false, [.b])], true, false, fun x => some (eqb x.1 x.2)⟩
noncomputable def ft110 : Nat → Option FE := ftOf [(131, e131)]
def hint110 : Nat → Hint := fun _ => {}
def ord110 : Nat → List Nat := fun _ => []
theorem en110 (n : Nat) (a0 : Int × Int × Int × (List (Int × List (Int) × List (Int))) × Int) (a1 : Int × Int × Int × (List (Int × List (Int) × List (Int))) × Int) : runF tab ft110 hint110 ord110 Tryz.f110 [(true, [.i .i64, .i .i64, .i .i64, .l c228, .i .i64]), (true, [.i .i64, .i .i64, .i .i64, .l c228, .i .i64])] [(false, [.b])] true n (a0, a1) =
  (bif (a0.1 != a1.1) then
  (some false)
  else (bif (a0.2.1 != a1.2.1) then
    (some false)
    else (bif (a0.2.2.1 != a1.2.2.1) then
      (some false)
      else (bif (!(eqb a0.2.2.2.1 a1.2.2.2.1)) then
        (some false)
        else (bif (a0.2.2.2.2 != a1.2.2.2.2) then
          (some false)
          else (some true))))) : Option (Bool)) := by kernel_rfl
theorem if110 (a b : Int × Int × Int × (List (Int × List (Int) × List (Int))) × Int) : (a.1, a.2.1, a.2.2.1, a.2.2.2.1, a.2.2.2.2, ()) = (b.1, b.2.1, b.2.2.1, b.2.2.2.1, b.2.2.2.2, ()) ↔ a = b := by simp [Prod.ext_iff, and_assoc]
theorem r110 : ∀ x y, okP e110.ps x → e110.φ x = some y → ∃ n, runF tab ft110 hint110 ord110 Tryz.f110 e110.ps e110.rs e110.fr n x = some y := by
  rintro ⟨a, b⟩ y ok h
  obtain rfl : eqb a b = y := Option.some.inj h
  exact ⟨0, (en110 0 a b).trans ((eqPn (eqPn (eqPn (eqP (eqPn eqT))))).trans (congrArg some (eqb_iff (if110 a b))))⟩
theorem s110 : Sat Tryz.prog 110 e110 := sat_of_run Tryz.func110 (c := bodyOf Tryz.f110) (by kernel_rfl) (ne_of_dec (by kernel_rfl)) mixed tab_ok (by kernel_rfl) (ftOf_cons s131 ftOf_nil) (by kernel_rfl) (fun h => (Bool.false_ne_true h).elim) r110
/- 80 loop.example/g00513/laws.eqRecoderS -/
noncomputable def e80 : FE := ⟨[(false, [.l c171]), (false, [.l c171])], [(false, [.b])], true, false, fun x => some (eqb x.1 x.2)⟩
noncomputable def ft80 : Nat → Option FE := ftOf [(110, e110)]
def hint80 : Nat → Hint := fun
  | 4 => ⟨[0, 1, 5], [], [], [], [4], []⟩
  | _ => {}
def ord80 : Nat → List Nat := fun
  | 6 => [0, 1, 2, 3, 4, 5, 6, 7, 8, 9]
  | _ => []
noncomputable def b80_rrlrll : Code := Code.l (Code.l (Code.r (Code.l (Code.r (Code.r (bodyOf Tryz.f80))))))
noncomputable def b80_rrr : Code := Code.r (Code.r (Code.r (bodyOf Tryz.f80)))
def S80_4 (x0 : List (Int × Int × Int × (List (Int × List (Int) × List (Int))) × Int)) (x1 : List (Int × Int × Int × (List (Int × List (Int) × List (Int))) × Int)) (x2 : Int) : St := ⟨[.d false c171 x0, .d false c171 x1, .bad, .bad, .bad, .v (.int .i64 x2), .bad, .bad, .bad, .bad, .bad, .bad, .bad, .bad, .bad, .bad, .bad, .bad, .bad, .bad, .bad, .bad, .bad, .bad, .bad, .bad, .bad], []⟩
def X80_4_r (x0 : Bool) : St := ⟨[.bad, .bad, .bad, .bad, .v (.bool x0), .bad, .bad, .bad, .bad, .bad, .bad, .bad, .bad, .bad, .bad, .bad, .bad, .bad, .bad, .bad, .bad, .bad, .bad, .bad, .bad, .bad, .bad], []⟩
def X80_4_0 : St := ⟨[.bad, .bad, .bad, .bad, .bad, .bad, .bad, .bad, .bad, .bad, .bad, .bad, .bad, .bad, .bad, .bad, .bad, .bad, .bad, .bad, .bad, .bad, .bad, .bad, .bad, .bad, .bad], []⟩
theorem en80 (n : Nat) (a0 : (List (Int × Int × Int × (List (Int × List (Int) × List (Int))) × Int))) (a1 : (List (Int × Int × Int × (List (Int × List (Int) × List (Int))) × Int))) : runF tab ft80 hint80 ord80 Tryz.f80 [(false, [.l c171]), (false, [.l c171])] [(false, [.b])] true n (a0, a1) =
  (bif ((a0.length : Int) != (a1.length : Int)) then
  (some false)
  else (loopK (codeK tab ft80 hint80 ord80 b80_rrlrll n) (hint80 4) n (S80_4 a0 a1 0) (Ex.block 0 (sK tab ft80 hint80 ord80 n b80_rrr (retK tab Tryz.f80 true [(false, [.b])])))) : Option (Bool)) := by kernel_rfl
theorem st80_4 {R : Type} (n m : Nat) (K : Ex → St → Option R) (x0 : List (Int × Int × Int × (List (Int × List (Int) × List (Int))) × Int)) (x1 : List (Int × Int × Int × (List (Int × List (Int) × List (Int))) × Int)) (x2 : Int) : loopK (codeK tab ft80 hint80 ord80 b80_rrlrll n) (hint80 4) (m + 1) (S80_4 x0 x1 x2) K =
  bif (decide (x2 < (x0.length : Int))) then
  (bif decide (0 ≤ x2) && decide (x2 < (x0.length : Int)) then
    (bif decide (0 ≤ x2) && decide (x2 < (x1.length : Int)) then
      (bif (!(eqb (x0.getD x2.toNat d171) (x1.getD x2.toNat d171))) then
        (K .ret (X80_4_r false))
        else (loopK (codeK tab ft80 hint80 ord80 b80_rrlrll n) (hint80 4) m (S80_4 x0 x1 (IntKind.wrap .i64 (x2 + 1))) K))
      else (none))
    else (none))
  else (K (.exit 0) (X80_4_0 )) := by kernel_rfl
theorem ex80_4_r (n : Nat) (x0 : Bool) : (Ex.block 0 (sK tab ft80 hint80 ord80 n b80_rrr (retK tab Tryz.f80 true [(false, [.b])]))) .ret (X80_4_r x0) =
  (some x0 : Option (Bool)) := by kernel_rfl
theorem ex80_4_0 (n : Nat) : (Ex.block 0 (sK tab ft80 hint80 ord80 n b80_rrr (retK tab Tryz.f80 true [(false, [.b])]))) (.exit 0) (X80_4_0 ) =
  (some true : Option (Bool)) := by kernel_rfl
theorem r80 : ∀ x y, okP e80.ps x → e80.φ x = some y → ∃ n, runF tab ft80 hint80 ord80 Tryz.f80 e80.ps e80.rs e80.fr n x = some y := by
  rintro ⟨a, b⟩ y ok h
  obtain rfl : eqb a b = y := Option.some.inj h
  refine ⟨a.length + 1, (en80 _ a b).trans (eqHead fun hab => ?_)⟩
  exact eqLoop0 (CT.dfltL c171) (fun x y => !(eqb x y)) (fun _ _ => rfl) (fun m x y i => loopK (codeK tab ft80 hint80 ord80 b80_rrlrll (a.length + 1)) (hint80 4) m (S80_4 x y i) (Ex.block 0 (sK tab ft80 hint80 ord80 (a.length + 1) b80_rrr (retK tab Tryz.f80 true [(false, [.b])])))) ((Ex.block 0 (sK tab ft80 hint80 ord80 (a.length + 1) b80_rrr (retK tab Tryz.f80 true [(false, [.b])]))) (.exit 0) X80_4_0) ((Ex.block 0 (sK tab ft80 hint80 ord80 (a.length + 1) b80_rrr (retK tab Tryz.f80 true [(false, [.b])]))) .ret (X80_4_r false)) (ex80_4_0 _) (ex80_4_r _ false) (fun m x y i => st80_4 _ m _ x y i) a b hab ok.1.1
theorem s80 : Sat Tryz.prog 80 e80 := sat_of_run Tryz.func80 (c := bodyOf Tryz.f80) (by kernel_rfl) (ne_of_dec (by kernel_rfl)) mixed tab_ok (by kernel_rfl) (ftOf_cons s110 ftOf_nil) (by kernel_rfl) (fun h => (Bool.false_ne_true h).elim) r80
/- 132 loop.example/g00513/laws.eqFeedback -/
noncomputable def e132 : FE := ⟨[(true, [.i .i64, .i .i64, .i .i64]), (true, [.i .i64, .i .i64, .i .i64])], [(false, [.b])], true, false, fun x => some (eqb x.1 x.2)⟩
def ft132 : Nat → Option FE := ftOf []
def hint132 : Nat → Hint := fun _ => {}
def ord132 : Nat → List Nat := fun _ => []
theorem en132 (n : Nat) (a0 : Int × Int × Int) (a1 : Int × Int × Int) : runF tab ft132 hint132 ord132 Tryz.f132 [(true, [.i .i64, .i .i64, .i .i64]), (true, [.i .i64, .i .i64, .i .i64])] [(false, [.b])] true n (a0, a1) =
  (bif (a0.1 != a1.1) then
  (some false)
  else (bif (a0.2.1 != a1.2.1) then
    (some false)
    else (bif (a0.2.2 != a1.2.2) then
      (some false)
      else (some true))) : Option (Bool)) := by kernel_rfl
theorem if132 (a b : Int × Int × Int) : (a.1, a.2.1, a.2.2, ()) = (b.1, b.2.1, b.2.2, ()) ↔ a = b := by simp [Prod.ext_iff, and_assoc]
theorem r132 : ∀ x y, okP e132.ps x → e132.φ x = some y → ∃ n, runF tab ft132 hint132 ord132 Tryz.f132 e132.ps e132.rs e132.fr n x = some y := by
  rintro ⟨a, b⟩ y ok h
  obtain rfl : eqb a b = y := Option.some.inj h
  exact ⟨0, (en132 0 a b).trans ((eqPn (eqPn (eqPn eqT))).trans (congrArg some (eqb_iff (if132 a b))))⟩
theorem s132 : Sat Tryz.prog 132 e132 := sat_of_run Tryz.func132 (c := bodyOf Tryz.f132) (by kernel_rfl) (ne_of_dec (by kernel_rfl)) mixed tab_ok (by kernel_rfl) ftOf_nil (by kernel_rfl) (fun h => (Bool.false_ne_true h).elim) r132
/- 111 loop.example/g00513/laws.eqFeedbackS -/
noncomputable def e111 : FE := ⟨[(false, [.l c176]), (false, [.l c176])], [(false, [.b])], true, false, fun x => some (eqb x.1 x.2)⟩
noncomputable def ft111 : Nat → Option FE := ftOf [(132, e132)]
def hint111 : Nat → Hint := fun
  | 4 => ⟨[0, 1, 5], [], [], [], [4], []⟩
  | _ => {}
def ord111 : Nat → List Nat := fun
  | 6 => [0, 1, 2, 3, 4, 5, 6, 7, 8, 9]
  | _ => []
noncomputable def b111_rrlrll : Code := Code.l (Code.l (Code.r (Code.l (Code.r (Code.r (bodyOf Tryz.f111))))))
noncomputable def b111_rrr : Code := Code.r (Code.r (Code.r (bodyOf Tryz.f111)))
def S111_4 (x0 : List (Int × Int × Int)) (x1 : List (Int × Int × Int)) (x2 : Int) : St := ⟨[.d false c176 x0, .d false c176 x1, .bad, .bad, .bad, .v (.int .i64 x2), .bad, .bad, .bad, .bad, .bad, .bad, .bad, .bad, .bad, .bad, .bad, .bad, .bad, .bad, .bad, .bad, .bad, .bad, .bad, .bad, .bad], []⟩
def X111_4_r (x0 : Bool) : St := ⟨[.bad, .bad, .bad, .bad, .v (.bool x0), .bad, .bad, .bad, .bad, .bad, .bad, .bad, .bad, .bad, .bad, .bad, .bad, .bad, .bad, .bad, .bad, .bad, .bad, .bad, .bad, .bad, .bad], []⟩
def X111_4_0 : St := ⟨[.bad, .bad, .bad, .bad, .bad, .bad, .bad, .bad, .bad, .bad, .bad, .bad, .bad, .bad, .bad, .bad, .bad, .bad, .bad, .bad, .bad, .bad, .bad, .bad, .bad, .bad, .bad], []⟩
theorem en111 (n : Nat) (a0 : (List (Int × Int × Int))) (a1 : (List (Int × Int × Int))) : runF tab ft111 hint111 ord111 Tryz.f111 [(false, [.l c176]), (false, [.l c176])] [(false, [.b])] true n (a0, a1) =
  (bif ((a0.length : Int) != (a1.length : Int)) then
  (some false)
  else (loopK (codeK tab ft111 hint111 ord111 b111_rrlrll n) (hint111 4) n (S111_4 a0 a1 0) (Ex.block 0 (sK tab ft111 hint111 ord111 n b111_rrr (retK tab Tryz.f111 true [(false, [.b])])))) : Option (Bool)) := by kernel_rfl
theorem st111_4 {R : Type} (n m : Nat) (K : Ex → St → Option R) (x0 : List (Int × Int × Int)) (x1 : List (Int × Int × Int)) (x2 : Int) : loopK (codeK tab ft111 hint111 ord111 b111_rrlrll n) (hint111 4) (m + 1) (S111_4 x0 x1 x2) K =
  bif (decide (x2 < (x0.length : Int))) then
  (bif decide (0 ≤ x2) && decide (x2 < (x0.length : Int)) then
    (bif decide (0 ≤ x2) && decide (x2 < (x1.length : Int)) then
      (bif (!(eqb (x0.getD x2.toNat d176) (x1.getD x2.toNat d176))) then
        (K .ret (X111_4_r false))
        else (loopK (codeK tab ft111 hint111 ord111 b111_rrlrll n) (hint111 4) m (S111_4 x0 x1 (IntKind.wrap .i64 (x2 + 1))) K))
      else (none))
    else (none))
  else (K (.exit 0) (X111_4_0 )) := by kernel_rfl
theorem ex111_4_r (n : Nat) (x0 : Bool) : (Ex.block 0 (sK tab ft111 hint111 ord111 n b111_rrr (retK tab Tryz.f111 true [(false, [.b])]))) .ret (X111_4_r x0) =
  (some x0 : Option (Bool)) := by kernel_rfl
theorem ex111_4_0 (n : Nat) : (Ex.block 0 (sK tab ft111 hint111 ord111 n b111_rrr (retK tab Tryz.f111 true [(false, [.b])]))) (.exit 0) (X111_4_0 ) =
  (some true : Option (Bool)) := by kernel_rfl
theorem r111 : ∀ x y, okP e111.ps x → e111.φ x = some y → ∃ n, runF tab ft111 hint111 ord111 Tryz.f111 e111.ps e111.rs e111.fr n x = some y := by
  rintro ⟨a, b⟩ y ok h
  obtain rfl : eqb a b = y := Option.some.inj h
  refine ⟨a.length + 1, (en111 _ a b).trans (eqHead fun hab => ?_)⟩
  exact eqLoop0 (CT.dfltL c176) (fun x y => !(eqb x y)) (fun _ _ => rfl) (fun m x y i => loopK (codeK tab ft111 hint111 ord111 b111_rrlrll (a.length + 1)) (hint111 4) m (S111_4 x y i) (Ex.block 0 (sK tab ft111 hint111 ord111 (a.length + 1) b111_rrr (retK tab Tryz.f111 true [(false, [.b])])))) ((Ex.block 0 (sK tab ft111 hint111 ord111 (a.length + 1) b111_rrr (retK tab Tryz.f111 true [(false, [.b])]))) (.exit 0) X111_4_0) ((Ex.block 0 (sK tab ft111 hint111 ord111 (a.length + 1) b111_rrr (retK tab Tryz.f111 true [(false, [.b])]))) .ret (X111_4_r false)) (ex111_4_0 _) (ex111_4_r _ false) (fun m x y i => st111_4 _ m _ x y i) a b hab ok.1.1
theorem s111 : Sat Tryz.prog 111 e111 := sat_of_run Tryz.func111 (c := bodyOf Tryz.f111) (by kernel_rfl) (ne_of_dec (by kernel_rfl)) mixed tab_ok (by kernel_rfl) (ftOf_cons s132 ftOf_nil) (by kernel_rfl) (fun h => (Bool.false_ne_true h).elim) r111
/- 81 loop.example/g00513/laws.eqFeedbackTable -/
noncomputable def e81 : FE := ⟨[(true, [.l c176]), (true, [.l c176])], [(false, [.b])], true, false, fun x => some (eqb x.1 x.2)⟩
noncomputable def ft81 : Nat → Option FE := ftOf [(111, e111)]
def hint81 : Nat → Hint := fun _ => {}
def ord81 : Nat → List Nat := fun _ => []
theorem en81 (n : Nat) (a0 : (List (Int × Int × Int))) (a1 : (List (Int × Int × Int))) : runF tab ft81 hint81 ord81 Tryz.f81 [(true, [.l c176]), (true, [.l c176])] [(false, [.b])] true n (a0, a1) =
  (bif (!(eqb a0 a1)) then
  (some false)
  else (some true) : Option (Bool)) := by kernel_rfl
theorem if81 (a b : (List (Int × Int × Int))) : (a, ()) = (b, ()) ↔ a = b := by simp [Prod.ext_iff, and_assoc]
theorem r81 : ∀ x y, okP e81.ps x → e81.φ x = some y → ∃ n, runF tab ft81 hint81 ord81 Tryz.f81 e81.ps e81.rs e81.fr n x = some y := by
  rintro ⟨a, b⟩ y ok h
  obtain rfl : eqb a b = y := Option.some.inj h
  exact ⟨0, (en81 0 a b).trans ((eqP eqT).trans (congrArg some (eqb_iff (if81 a b))))⟩
theorem s81 : Sat Tryz.prog 81 e81 := sat_of_run Tryz.func81 (c := bodyOf Tryz.f81) (by kernel_rfl) (ne_of_dec (by kernel_rfl)) mixed tab_ok (by kernel_rfl) (ftOf_cons s111 ftOf_nil) (by kernel_rfl) (fun h => (Bool.false_ne_true h).elim) r81
/- 34 loop.example/g00513/laws.eqSource -/
noncomputable def e34 : FE := ⟨[(true, [.l c167, .i .i64, .i .i64, .i .i64, .i .i64, .l c171, .l c176, .i .i64]), (true, [.l c167, .i .i64, .i .i64, .i .i64, .i .i64, .l c171, .l c176, .i .i64])], [(false, [.b])], true, false, fun x => some (eqb x.1 x.2)⟩
noncomputable def ft34 : Nat → Option FE := ftOf [(78, e78), (79, e79), (80, e80), (81, e81)]
def hint34 : Nat → Hint := fun _ => {}
def ord34 : Nat → List Nat := fun _ => []
theorem en34 (n : Nat) (a0 : (List (Int × List (List (Int)))) × Int × Int × Int × Int × (List (Int × Int × Int × (List (Int × List (Int) × List (Int))) × Int)) × (List (Int × Int × Int)) × Int) (a1 : (List (Int × List (List (Int)))) × Int × Int × Int × Int × (List (Int × Int × Int × (List (Int × List (Int) × List (Int))) × Int)) × (List (Int × Int × Int)) × Int) : runF tab ft34 hint34 ord34 Tryz.f34 [(true, [.l c167, .i .i64, .i .i64, .i .i64, .i .i64, .l c171, .l c176, .i .i64]), (true, [.l c167, .i .i64, .i .i64, .i .i64, .i .i64, .l c171, .l c176, .i .i64])] [(false, [.b])] true n (a0, a1) =
  (bif (!(eqb a0.1 a1.1)) then
  (some false)
  else (bif (!(eqb (a0.2.1, a0.2.2.1, a0.2.2.2.1, a0.2.2.2.2.1) (a1.2.1, a1.2.2.1, a1.2.2.2.1, a1.2.2.2.2.1))) then
    (some false)
    else (bif (!(eqb a0.2.2.2.2.2.1 a1.2.2.2.2.2.1)) then
      (some false)
      else (bif (!(eqb a0.2.2.2.2.2.2.1 a1.2.2.2.2.2.2.1)) then
        (some false)
        else (bif (a0.2.2.2.2.2.2.2 != a1.2.2.2.2.2.2.2) then
          (some false)
          else (some true))))) : Option (Bool)) := by kernel_rfl
theorem if34 (a b : (List (Int × List (List (Int)))) × Int × Int × Int × Int × (List (Int × Int × Int × (List (Int × List (Int) × List (Int))) × Int)) × (List (Int × Int × Int)) × Int) : (a.1, (a.2.1, a.2.2.1, a.2.2.2.1, a.2.2.2.2.1), a.2.2.2.2.2.1, a.2.2.2.2.2.2.1, a.2.2.2.2.2.2.2, ()) = (b.1, (b.2.1, b.2.2.1, b.2.2.2.1, b.2.2.2.2.1), b.2.2.2.2.2.1, b.2.2.2.2.2.2.1, b.2.2.2.2.2.2.2, ()) ↔ a = b := by simp [Prod.ext_iff, and_assoc]
theorem r34 : ∀ x y, okP e34.ps x → e34.φ x = some y → ∃ n, runF tab ft34 hint34 ord34 Tryz.f34 e34.ps e34.rs e34.fr n x = some y := by
  rintro ⟨a, b⟩ y ok h
  obtain rfl : eqb a b = y := Option.some.inj h
  exact ⟨0, (en34 0 a b).trans ((eqP (eqP (eqP (eqP (eqPn eqT))))).trans (congrArg some (eqb_iff (if34 a b))))⟩
theorem s34 : Sat Tryz.prog 34 e34 := sat_of_run Tryz.func34 (c := bodyOf Tryz.f34) (by kernel_rfl) (ne_of_dec (by kernel_rfl)) mixed tab_ok (by kernel_rfl) (ftOf_cons s78 (ftOf_cons s79 (ftOf_cons s80 (ftOf_cons s81 ftOf_nil)))) (by kernel_rfl) (fun h => (Bool.false_ne_true h).elim) r34
/- 82 loop.example/g00513/laws.eqRelay -/
noncomputable def e82 : FE := ⟨[(true, [.i .i64, .l c171]), (true, [.i .i64, .l c171])], [(false, [.b])], true, false, fun x => some (eqb x.1 x.2)⟩
noncomputable def ft82 : Nat → Option FE := ftOf [(80, e80)]
def hint82 : Nat → Hint := fun _ => {}
def ord82 : Nat → List Nat := fun _ => []
theorem en82 (n : Nat) (a0 : Int × (List (Int × Int × Int × (List (Int × List (Int) × List (Int))) × Int))) (a1 : Int × (List (Int × Int × Int × (List (Int × List (Int) × List (Int))) × Int))) : runF tab ft82 hint82 ord82 Tryz.f82 [(true, [.i .i64, .l c171]), (true, [.i .i64, .l c171])] [(false, [.b])] true n (a0, a1) =
  (bif (a0.1 != a1.1) then
  (some false)
  else (bif (!(eqb a0.2 a1.2)) then
    (some false)
    else (some true)) : Option (Bool)) := by kernel_rfl
theorem if82 (a b : Int × (List (Int × Int × Int × (List (Int × List (Int) × List (Int))) × Int))) : (a.1, a.2, ()) = (b.1, b.2, ()) ↔ a = b := by simp [Prod.ext_iff, and_assoc]
theorem r82 : ∀ x y, okP e82.ps x → e82.φ x = some y → ∃ n, runF tab ft82 hint82 ord82 Tryz.f82 e82.ps e82.rs e82.fr n x = some y := by
  rintro ⟨a, b⟩ y ok h
  obtain rfl : eqb a b = y := Option.some.inj h
  exact ⟨0, (en82 0 a b).trans ((eqPn (eqP eqT)).trans (congrArg some (eqb_iff (if82 a b))))⟩
theorem s82 : Sat Tryz.prog 82 e82 := sat_of_run Tryz.func82 (c := bodyOf Tryz.f82) (by kernel_rfl) (ne_of_dec (by kernel_rfl)) mixed tab_ok (by kernel_rfl) (ftOf_cons s80 ftOf_nil) (by kernel_rfl) (fun h => (Bool.false_ne_true h).elim) r82
/- 35 loop.example/g00513/laws.eqRelayS -/
noncomputable def e35 : FE := ⟨[(false, [.l c110]), (false, [.l c110])], [(false, [.b])], true, false, fun x => some (eqb x.1 x.2)⟩
noncomputable def ft35 : Nat → Option FE := ftOf [(82, e82)]
def hint35 : Nat → Hint := fun
  | 4 => ⟨[0, 1, 5], [], [], [], [4], []⟩
  | _ => {}
def ord35 : Nat → List Nat := fun
  | 6 => [0, 1, 2, 3, 4, 5, 6, 7, 8, 9]
  | _ => []
noncomputable def b35_rrlrll : Code := Code.l (Code.l (Code.r (Code.l (Code.r (Code.r (bodyOf Tryz.f35))))))
noncomputable def b35_rrr : Code := Code.r (Code.r (Code.r (bodyOf Tryz.f35)))
def S35_4 (x0 : List (Int × (List (Int × Int × Int × (List (Int × List (Int) × List (Int))) × Int)))) (x1 : List (Int × (List (Int × Int × Int × (List (Int × List (Int) × List (Int))) × Int)))) (x2 : Int) : St := ⟨[.d false c110 x0, .d false c110 x1, .bad, .bad, .bad, .v (.int .i64 x2), .bad, .bad, .bad, .bad, .bad, .bad, .bad, .bad, .bad, .bad, .bad, .bad, .bad, .bad, .bad, .bad, .bad, .bad, .bad, .bad, .bad], []⟩
def X35_4_r (x0 : Bool) : St := ⟨[.bad, .bad, .bad, .bad, .v (.bool x0), .bad, .bad, .bad, .bad, .bad, .bad, .bad, .bad, .bad, .bad, .bad, .bad, .bad, .bad, .bad, .bad, .bad, .bad, .bad, .bad, .bad, .bad], []⟩
def X35_4_0 : St := ⟨[.bad, .bad, .bad, .bad, .bad, .bad, .bad, .bad, .bad, .bad, .bad, .bad, .bad, .bad, .bad, .bad, .bad, .bad, .bad, .bad, .bad, .bad, .bad, .bad, .bad, .bad, .bad], []⟩
theorem en35 (n : Nat) (a0 : (List (Int × (List (Int × Int × Int × (List (Int × List (Int) × List (Int))) × Int))))) (a1 : (List (Int × (List (Int × Int × Int × (List (Int × List (Int) × List (Int))) × Int))))) : runF tab ft35 hint35 ord35 Tryz.f35 [(false, [.l c110]), (false, [.l c110])] [(false, [.b])] true n (a0, a1) =
  (bif ((a0.length : Int) != (a1.length : Int)) then
  (some false)
  else (loopK (codeK tab ft35 hint35 ord35 b35_rrlrll n) (hint35 4) n (S35_4 a0 a1 0) (Ex.block 0 (sK tab ft35 hint35 ord35 n b35_rrr (retK tab Tryz.f35 true [(false, [.b])])))) : Option (Bool)) := by kernel_rfl
theorem st35_4 {R : Type} (n m : Nat) (K : Ex → St → Option R) (x0 : List (Int × (List (Int × Int × Int × (List (Int × List (Int) × List (Int))) × Int)))) (x1 : List (Int × (List (Int × Int × Int × (List (Int × List (Int) × List (Int))) × Int)))) (x2 : Int) : loopK (codeK tab ft35 hint35 ord35 b35_rrlrll n) (hint35 4) (m + 1) (S35_4 x0 x1 x2) K =
  bif (decide (x2 < (x0.length : Int))) then
  (bif decide (0 ≤ x2) && decide (x2 < (x0.length : Int)) then
    (bif decide (0 ≤ x2) && decide (x2 < (x1.length : Int)) then
      (bif (!(eqb (x0.getD x2.toNat d110) (x1.getD x2.toNat d110))) then
        (K .ret (X35_4_r false))
        else (loopK (codeK tab ft35 hint35 ord35 b35_rrlrll n) (hint35 4) m (S35_4 x0 x1 (IntKind.wrap .i64 (x2 + 1))) K))
      else (none))
    else (none))
  else (K (.exit 0) (X35_4_0 )) := by kernel_rfl
theorem ex35_4_r (n : Nat) (x0 : Bool) : (Ex.block 0 (sK tab ft35 hint35 ord35 n b35_rrr (retK tab Tryz.f35 true [(false, [.b])]))) .ret (X35_4_r x0) =
  (some x0 : Option (Bool)) := by kernel_rfl
theorem ex35_4_0 (n : Nat) : (Ex.block 0 (sK tab ft35 hint35 ord35 n b35_rrr (retK tab Tryz.f35 true [(false, [.b])]))) (.exit 0) (X35_4_0 ) =
  (some true : Option (Bool)) := by kernel_rfl
theorem r35 : ∀ x y, okP e35.ps x → e35.φ x = some y → ∃ n, runF tab ft35 hint35 ord35 Tryz.f35 e35.ps e35.rs e35.fr n x = some y := by
  rintro ⟨a, b⟩ y ok h
  obtain rfl : eqb a b = y := Option.some.inj h
  refine ⟨a.length + 1, (en35 _ a b).trans (eqHead fun hab => ?_)⟩
  exact eqLoop0 (CT.dfltL c110) (fun x y => !(eqb x y)) (fun _ _ => rfl) (fun m x y i => loopK (codeK tab ft35 hint35 ord35 b35_rrlrll (a.length + 1)) (hint35 4) m (S35_4 x y i) (Ex.block 0 (sK tab ft35 hint35 ord35 (a.length + 1) b35_rrr (retK tab Tryz.f35 true [(false, [.b])])))) ((Ex.block 0 (sK tab ft35 hint35 ord35 (a.length + 1) b35_rrr (retK tab Tryz.f35 true [(false, [.b])]))) (.exit 0) X35_4_0) ((Ex.block 0 (sK tab ft35 hint35 ord35 (a.length + 1) b35_rrr (retK tab Tryz.f35 true [(false, [.b])]))) .ret (X35_4_r false)) (ex35_4_0 _) (ex35_4_r _ false) (fun m x y i => st35_4 _ m _ x y i) a b hab ok.1.1
theorem s35 : Sat Tryz.prog 35 e35 := sat_of_run Tryz.func35 (c := bodyOf Tryz.f35) (by kernel_rfl) (ne_of_dec (by kernel_rfl)) mixed tab_ok (by kernel_rfl) (ftOf_cons s82 ftOf_nil) (by kernel_rfl) (fun h => (Bool.false_ne_true h).elim) r35
/- 151 loop.example/g00513/laws.eqBasis -/
noncomputable def e151 : FE := ⟨[(true, [.i .i64, .l c36]), (true, [.i .i64, .l c36])], [(false, [.b])], true, false, fun x => some (eqb x.1 x.2)⟩
noncomputable def ft151 : Nat → Option FE := ftOf [(130, e130)]
def hint151 : Nat → Hint := fun _ => {}
def ord151 : Nat → List Nat := fun _ => []
theorem en151 (n : Nat) (a0 : Int × List (List (Int))) (a1 : Int × List (List (Int))) : runF tab ft151 hint151 ord151 Tryz.f151 [(true, [.i .i64, .l c36]), (true, [.i .i64, .l c36])] [(false, [.b])] true n (a0, a1) =
  (bif (a0.1 != a1.1) then
  (some false)
  else (bif (!(eqb a0.2 a1.2)) then
    (some false)
    else (some true)) : Option (Bool)) := by kernel_rfl
theorem if151 (a b : Int × List (List (Int))) : (a.1, a.2, ()) = (b.1, b.2, ()) ↔ a = b := by simp [Prod.ext_iff, and_assoc]
theorem r151 : ∀ x y, okP e151.ps x → e151.φ x = some y → ∃ n, runF tab ft151 hint151 ord151 Tryz.f151 e151.ps e151.rs e151.fr n x = some y := by
  rintro ⟨a, b⟩ y ok h
  obtain rfl : eqb a b = y := Option.some.inj h
  exact ⟨0, (en151 0 a b).trans ((eqPn (eqP eqT)).trans (congrArg some (eqb_iff (if151 a b))))⟩
theorem s151 : Sat Tryz.prog 151 e151 := sat_of_run Tryz.func151 (c := bodyOf Tryz.f151) (by kernel_rfl) (ne_of_dec (by kernel_rfl)) mixed tab_ok (by kernel_rfl) (ftOf_cons s130 ftOf_nil) (by kernel_rfl) (fun h => (Bool.false_ne_true h).elim) r151
/- 133 loop.example/g00513/laws.eqDecoder -/
noncomputable def e133 : FE := ⟨[(true, [.i .i64, .i .i64, .i .i64, .i .i64, .l c36]), (true, [.i .i64, .i .i64, .i .i64, .i .i64, .l c36])], [(false, [.b])], true, false, fun x => some (eqb x.1 x.2)⟩
noncomputable def ft133 : Nat → Option FE := ftOf [(151, e151)]
def hint133 : Nat → Hint := fun _ => {}
def ord133 : Nat → List Nat := fun _ => []
theorem en133 (n : Nat) (a0 : Int × Int × Int × Int × List (List (Int))) (a1 : Int × Int × Int × Int × List (List (Int))) : runF tab ft133 hint133 ord133 Tryz.f133 [(true, [.i .i64, .i .i64, .i .i64, .i .i64, .l c36]), (true, [.i .i64, .i .i64, .i .i64, .i .i64, .l c36])] [(false, [.b])] true n (a0, a1) =
  (bif (a0.1 != a1.1) then
  (some false)
  else (bif (a0.2.1 != a1.2.1) then
    (some false)
    else (bif (a0.2.2.1 != a1.2.2.1) then
      (some false)
      else (bif (!(eqb a0.2.2.2 a1.2.2.2)) then
        (some false)
        else (some true)))) : Option (Bool)) := by kernel_rfl
theorem if133 (a b : Int × Int × Int × Int × List (List (Int))) : (a.1, a.2.1, a.2.2.1, a.2.2.2, ()) = (b.1, b.2.1, b.2.2.1, b.2.2.2, ()) ↔ a = b := by simp [Prod.ext_iff, and_assoc]
theorem r133 : ∀ x y, okP e133.ps x → e133.φ x = some y → ∃ n, runF tab ft133 hint133 ord133 Tryz.f133 e133.ps e133.rs e133.fr n x = some y := by
  rintro ⟨a, b⟩ y ok h
  obtain rfl : eqb a b = y := Option.some.inj h
  exact ⟨0, (en133 0 a b).trans ((eqPn (eqPn (eqPn (eqP eqT)))).trans (congrArg some (eqb_iff (if133 a b))))⟩
theorem s133 : Sat Tryz.prog 133 e133 := sat_of_run Tryz.func133 (c := bodyOf Tryz.f133) (by kernel_rfl) (ne_of_dec (by kernel_rfl)) mixed tab_ok (by kernel_rfl) (ftOf_cons s151 ftOf_nil) (by kernel_rfl) (fun h => (Bool.false_ne_true h).elim) r133
/- 112 loop.example/g00513/laws.eqDecoderS -/
noncomputable def e112 : FE := ⟨[(false, [.l c207]), (false, [.l c207])], [(false, [.b])], true, false, fun x => some (eqb x.1 x.2)⟩
noncomputable def ft112 : Nat → Option FE := ftOf [(133, e133)]
def hint112 : Nat → Hint := fun
  | 4 => ⟨[0, 1, 5], [], [], [], [4], []⟩
  | _ => {}
def ord112 : Nat → List Nat := fun
  | 6 => [0, 1, 2, 3, 4, 5, 6, 7, 8, 9]
  | _ => []
noncomputable def b112_rrlrll : Code := Code.l (Code.l (Code.r (Code.l (Code.r (Code.r (bodyOf Tryz.f112))))))
noncomputable def b112_rrr : Code := Code.r (Code.r (Code.r (bodyOf Tryz.f112)))
def S112_4 (x0 : List (Int × Int × Int × Int × List (List (Int)))) (x1 : List (Int × Int × Int × Int × List (List (Int)))) (x2 : Int) : St := ⟨[.d false c207 x0, .d false c207 x1, .bad, .bad, .bad, .v (.int .i64 x2), .bad, .bad, .bad, .bad, .bad, .bad, .bad, .bad, .bad, .bad, .bad, .bad, .bad, .bad, .bad, .bad, .bad, .bad, .bad, .bad, .bad], []⟩
def X112_4_r (x0 : Bool) : St := ⟨[.bad, .bad, .bad, .bad, .v (.bool x0), .bad, .bad, .bad, .bad, .bad, .bad, .bad, .bad, .bad, .bad, .bad, .bad, .bad, .bad, .bad, .bad, .bad, .bad, .bad, .bad, .bad, .bad], []⟩
def X112_4_0 : St := ⟨[.bad, .bad, .bad, .bad, .bad, .bad, .bad, .bad, .bad, .bad, .bad, .bad, .bad, .bad, .bad, .bad, .bad, .bad, .bad, .bad, .bad, .bad, .bad, .bad, .bad, .bad, .bad], []⟩
theorem en112 (n : Nat) (a0 : (List (Int × Int × Int × Int × List (List (Int))))) (a1 : (List (Int × Int × Int × Int × List (List (Int))))) : runF tab ft112 hint112 ord112 Tryz.f112 [(false, [.l c207]), (false, [.l c207])] [(false, [.b])] true n (a0, a1) =
  (bif ((a0.length : Int) != (a1.length : Int)) then
  (some false)
  else (loopK (codeK tab ft112 hint112 ord112 b112_rrlrll n) (hint112 4) n (S112_4 a0 a1 0) (Ex.block 0 (sK tab ft112 hint112 ord112 n b112_rrr (retK tab Tryz.f112 true [(false, [.b])])))) : Option (Bool)) := by kernel_rfl
theorem st112_4 {R : Type} (n m : Nat) (K : Ex → St → Option R) (x0 : List (Int × Int × Int × Int × List (List (Int)))) (x1 : List (Int × Int × Int × Int × List (List (Int)))) (x2 : Int) : loopK (codeK tab ft112 hint112 ord112 b112_rrlrll n) (hint112 4) (m + 1) (S112_4 x0 x1 x2) K =
  bif (decide (x2 < (x0.length : Int))) then
  (bif decide (0 ≤ x2) && decide (x2 < (x0.length : Int)) then
    (bif decide (0 ≤ x2) && decide (x2 < (x1.length : Int)) then
      (bif (!(eqb (x0.getD x2.toNat d207) (x1.getD x2.toNat d207))) then
        (K .ret (X112_4_r false))
        else (loopK (codeK tab ft112 hint112 ord112 b112_rrlrll n) (hint112 4) m (S112_4 x0 x1 (IntKind.wrap .i64 (x2 + 1))) K))
      else (none))
    else (none))
  else (K (.exit 0) (X112_4_0 )) := by kernel_rfl
theorem ex112_4_r (n : Nat) (x0 : Bool) : (Ex.block 0 (sK tab ft112 hint112 ord112 n b112_rrr (retK tab Tryz.f112 true [(false, [.b])]))) .ret (X112_4_r x0) =
  (some x0 : Option (Bool)) := by kernel_rfl
theorem ex112_4_0 (n : Nat) : (Ex.block 0 (sK tab ft112 hint112 ord112 n b112_rrr (retK tab Tryz.f112 true [(false, [.b])]))) (.exit 0) (X112_4_0 ) =
  (some true : Option (Bool)) := by kernel_rfl
theorem r112 : ∀ x y, okP e112.ps x → e112.φ x = some y → ∃ n, runF tab ft112 hint112 ord112 Tryz.f112 e112.ps e112.rs e112.fr n x = some y := by
  rintro ⟨a, b⟩ y ok h
  obtain rfl : eqb a b = y := Option.some.inj h
  refine ⟨a.length + 1, (en112 _ a b).trans (eqHead fun hab => ?_)⟩
  exact eqLoop0 (CT.dfltL c207) (fun x y => !(eqb x y)) (fun _ _ => rfl) (fun m x y i => loopK (codeK tab ft112 hint112 ord112 b112_rrlrll (a.length + 1)) (hint112 4) m (S112_4 x y i) (Ex.block 0 (sK tab ft112 hint112 ord112 (a.length + 1) b112_rrr (retK tab Tryz.f112 true [(false, [.b])])))) ((Ex.block 0 (sK tab ft112 hint112 ord112 (a.length + 1) b112_rrr (retK tab Tryz.f112 true [(false, [.b])]))) (.exit 0) X112_4_0) ((Ex.block 0 (sK tab ft112 hint112 ord112 (a.length + 1) b112_rrr (retK tab Tryz.f112 true [(false, [.b])]))) .ret (X112_4_r false)) (ex112_4_0 _) (ex112_4_r _ false) (fun m x y i => st112_4 _ m _ x y i) a b hab ok.1.1
theorem s112 : Sat Tryz.prog 112 e112 := sat_of_run Tryz.func112 (c := bodyOf Tryz.f112) (by kernel_rfl) (ne_of_dec (by kernel_rfl)) mixed tab_ok (by kernel_rfl) (ftOf_cons s133 ftOf_nil) (by kernel_rfl) (fun h => (Bool.false_ne_true h).elim) r112
/- 83 loop.example/g00513/laws.eqSink -/
noncomputable def e83 : FE := ⟨[(true, [.i .i64, .i .i64, .l c3, .l c207, .l c167, .i .i64]), (true, [.i .i64, .i .i64, .l c3, .l c207, .l c167, .i .i64])], [(false, [.b])], true, false, fun x => some (eqb x.1 x.2)⟩
noncomputable def ft83 : Nat → Option FE := ftOf [(8, e8), (78, e78), (112, e112)]
def hint83 : Nat → Hint := fun _ => {}
def ord83 : Nat → List Nat := fun _ => []
theorem en83 (n : Nat) (a0 : Int × Int × List (Int) × (List (Int × Int × Int × Int × List (List (Int)))) × (List (Int × List (List (Int)))) × Int) (a1 : Int × Int × List (Int) × (List (Int × Int × Int × Int × List (List (Int)))) × (List (Int × List (List (Int)))) × Int) : runF tab ft83 hint83 ord83 Tryz.f83 [(true, [.i .i64, .i .i64, .l c3, .l c207, .l c167, .i .i64]), (true, [.i .i64, .i .i64, .l c3, .l c207, .l c167, .i .i64])] [(false, [.b])] true n (a0, a1) =
  (bif (a0.1 != a1.1) then
  (some false)
  else (bif (a0.2.1 != a1.2.1) then
    (some false)
    else (bif (!(eqb a0.2.2.1 a1.2.2.1)) then
      (some false)
      else (bif (!(eqb a0.2.2.2.1 a1.2.2.2.1)) then
        (some false)
        else (bif (!(eqb a0.2.2.2.2.1 a1.2.2.2.2.1)) then
          (some false)
          else (bif (a0.2.2.2.2.2 != a1.2.2.2.2.2) then
            (some false)
            else (some true)))))) : Option (Bool)) := by kernel_rfl
theorem if83 (a b : Int × Int × List (Int) × (List (Int × Int × Int × Int × List (List (Int)))) × (List (Int × List (List (Int)))) × Int) : (a.1, a.2.1, a.2.2.1, a.2.2.2.1, a.2.2.2.2.1, a.2.2.2.2.2, ()) = (b.1, b.2.1, b.2.2.1, b.2.2.2.1, b.2.2.2.2.1, b.2.2.2.2.2, ()) ↔ a = b := by simp [Prod.ext_iff, and_assoc]
theorem r83 : ∀ x y, okP e83.ps x → e83.φ x = some y → ∃ n, runF tab ft83 hint83 ord83 Tryz.f83 e83.ps e83.rs e83.fr n x = some y := by
  rintro ⟨a, b⟩ y ok h
  obtain rfl : eqb a b = y := Option.some.inj h
  exact ⟨0, (en83 0 a b).trans ((eqPn (eqPn (eqP (eqP (eqP (eqPn eqT)))))).trans (congrArg some (eqb_iff (if83 a b))))⟩
theorem s83 : Sat Tryz.prog 83 e83 := sat_of_run Tryz.func83 (c := bodyOf Tryz.f83) (by kernel_rfl) (ne_of_dec (by kernel_rfl)) mixed tab_ok (by kernel_rfl) (ftOf_cons s8 (ftOf_cons s78 (ftOf_cons s112 ftOf_nil))) (by kernel_rfl) (fun h => (Bool.false_ne_true h).elim) r83
/- 36 loop.example/g00513/laws.eqSinkS -/
noncomputable def e36 : FE := ⟨[(false, [.l c114]), (false, [.l c114])], [(false, [.b])], true, false, fun x => some (eqb x.1 x.2)⟩
noncomputable def ft36 : Nat → Option FE := ftOf [(83, e83)]
def hint36 : Nat → Hint := fun
  | 4 => ⟨[0, 1, 5], [], [], [], [4], []⟩
  | _ => {}
def ord36 : Nat → List Nat := fun
  | 6 => [0, 1, 2, 3, 4, 5, 6, 7, 8, 9]
  | _ => []
noncomputable def b36_rrlrll : Code := Code.l (Code.l (Code.r (Code.l (Code.r (Code.r (bodyOf Tryz.f36))))))
noncomputable def b36_rrr : Code := Code.r (Code.r (Code.r (bodyOf Tryz.f36)))
def S36_4 (x0 : List (Int × Int × List (Int) × (List (Int × Int × Int × Int × List (List (Int)))) × (List (Int × List (List (Int)))) × Int)) (x1 : List (Int × Int × List (Int) × (List (Int × Int × Int × Int × List (List (Int)))) × (List (Int × List (List (Int)))) × Int)) (x2 : Int) : St := ⟨[.d false c114 x0, .d false c114 x1, .bad, .bad, .bad, .v (.int .i64 x2), .bad, .bad, .bad, .bad, .bad, .bad, .bad, .bad, .bad, .bad, .bad, .bad, .bad, .bad, .bad, .bad, .bad, .bad, .bad, .bad, .bad], []⟩
def X36_4_r (x0 : Bool) : St := ⟨[.bad, .bad, .bad, .bad, .v (.bool x0), .bad, .bad, .bad, .bad, .bad, .bad, .bad, .bad, .bad, .bad, .bad, .bad, .bad, .bad, .bad, .bad, .bad, .bad, .bad, .bad, .bad, .bad], []⟩
def X36_4_0 : St := ⟨[.bad, .bad, .bad, .bad, .bad, .bad, .bad, .bad, .bad, .bad, .bad, .bad, .bad, .bad, .bad, .bad, .bad, .bad, .bad, .bad, .bad, .bad, .bad, .bad, .bad, .bad, .bad], []⟩
theorem en36 (n : Nat) (a0 : (List (Int × Int × List (Int) × (List (Int × Int × Int × Int × List (List (Int)))) × (List (Int × List (List (Int)))) × Int))) (a1 : (List (Int × Int × List (Int) × (List (Int × Int × Int × Int × List (List (Int)))) × (List (Int × List (List (Int)))) × Int))) : runF tab ft36 hint36 ord36 Tryz.f36 [(false, [.l c114]), (false, [.l c114])] [(false, [.b])] true n (a0, a1) =
  (bif ((a0.length : Int) != (a1.length : Int)) then
  (some false)
  else (loopK (codeK tab ft36 hint36 ord36 b36_rrlrll n) (hint36 4) n (S36_4 a0 a1 0) (Ex.block 0 (sK tab ft36 hint36 ord36 n b36_rrr (retK tab Tryz.f36 true [(false, [.b])])))) : Option (Bool)) := by kernel_rfl
theorem st36_4 {R : Type} (n m : Nat) (K : Ex → St → Option R) (x0 : List (Int × Int × List (Int) × (List (Int × Int × Int × Int × List (List (Int)))) × (List (Int × List (List (Int)))) × Int)) (x1 : List (Int × Int × List (Int) × (List (Int × Int × Int × Int × List (List (Int)))) × (List (Int × List (List (Int)))) × Int)) (x2 : Int) : loopK (codeK tab ft36 hint36 ord36 b36_rrlrll n) (hint36 4) (m + 1) (S36_4 x0 x1 x2) K =
  bif (decide (x2 < (x0.length : Int))) then
  (bif decide (0 ≤ x2) && decide (x2 < (x0.length : Int)) then
    (bif decide (0 ≤ x2) && decide (x2 < (x1.length : Int)) then
      (bif (!(eqb (x0.getD x2.toNat d114) (x1.getD x2.toNat d114))) then
        (K .ret (X36_4_r false))
        else (loopK (codeK tab ft36 hint36 ord36 b36_rrlrll n) (hint36 4) m (S36_4 x0 x1 (IntKind.wrap .i64 (x2 + 1))) K))
      else (none))
    else (none))
  else (K (.exit 0) (X36_4_0 )) := by kernel_rfl
theorem ex36_4_r (n : Nat) (x0 : Bool) : (Ex.block 0 (sK tab ft36 hint36 ord36 n b36_rrr (retK tab Tryz.f36 true [(false, [.b])]))) .ret (X36_4_r x0) =
  (some x0 : Option (Bool)) := by kernel_rfl
theorem ex36_4_0 (n : Nat) : (Ex.block 0 (sK tab ft36 hint36 ord36 n b36_rrr (retK tab Tryz.f36 true [(false, [.b])]))) (.exit 0) (X36_4_0 ) =
  (some true : Option (Bool)) := by kernel_rfl
theorem r36 : ∀ x y, okP e36.ps x → e36.φ x = some y → ∃ n, runF tab ft36 hint36 ord36 Tryz.f36 e36.ps e36.rs e36.fr n x = some y := by
  rintro ⟨a, b⟩ y ok h
  obtain rfl : eqb a b = y := Option.some.inj h
  refine ⟨a.length + 1, (en36 _ a b).trans (eqHead fun hab => ?_)⟩
  exact eqLoop0 (CT.dfltL c114) (fun x y => !(eqb x y)) (fun _ _ => rfl) (fun m x y i => loopK (codeK tab ft36 hint36 ord36 b36_rrlrll (a.length + 1)) (hint36 4) m (S36_4 x y i) (Ex.block 0 (sK tab ft36 hint36 ord36 (a.length + 1) b36_rrr (retK tab Tryz.f36 true [(false, [.b])])))) ((Ex.block 0 (sK tab ft36 hint36 ord36 (a.length + 1) b36_rrr (retK tab Tryz.f36 true [(false, [.b])]))) (.exit 0) X36_4_0) ((Ex.block 0 (sK tab ft36 hint36 ord36 (a.length + 1) b36_rrr (retK tab Tryz.f36 true [(false, [.b])]))) .ret (X36_4_r false)) (ex36_4_0 _) (ex36_4_r _ false) (fun m x y i => st36_4 _ m _ x y i) a b hab ok.1.1
theorem s36 : Sat Tryz.prog 36 e36 := sat_of_run Tryz.func36 (c := bodyOf Tryz.f36) (by kernel_rfl) (ne_of_dec (by kernel_rfl)) mixed tab_ok (by kernel_rfl) (ftOf_cons s83 ftOf_nil) (by kernel_rfl) (fun h => (Bool.false_ne_true h).elim) r36
/- 37 loop.example/g00513/laws.eqHashKey -/
noncomputable def e37 : FE := ⟨[(true, [.l c3]), (true, [.l c3])], [(false, [.b])], true, false, fun x => some (eqb x.1 x.2)⟩
noncomputable def ft37 : Nat → Option FE := ftOf [(8, e8)]
def hint37 : Nat → Hint := fun _ => {}
def ord37 : Nat → List Nat := fun _ => []
theorem en37 (n : Nat) (a0 : List (Int)) (a1 : List (Int)) : runF tab ft37 hint37 ord37 Tryz.f37 [(true, [.l c3]), (true, [.l c3])] [(false, [.b])] true n (a0, a1) =
  (bif (!(eqb a0 a1)) then
  (some false)
  else (some true) : Option (Bool)) := by kernel_rfl
theorem if37 (a b : List (Int)) : (a, ()) = (b, ()) ↔ a = b := by simp [Prod.ext_iff, and_assoc]
theorem r37 : ∀ x y, okP e37.ps x → e37.φ x = some y → ∃ n, runF tab ft37 hint37 ord37 Tryz.f37 e37.ps e37.rs e37.fr n x = some y := by
  rintro ⟨a, b⟩ y ok h
  obtain rfl : eqb a b = y := Option.some.inj h
  exact ⟨0, (en37 0 a b).trans ((eqP eqT).trans (congrArg some (eqb_iff (if37 a b))))⟩
theorem s37 : Sat Tryz.prog 37 e37 := sat_of_run Tryz.func37 (c := bodyOf Tryz.f37) (by kernel_rfl) (ne_of_dec (by kernel_rfl)) mixed tab_ok (by kernel_rfl) (ftOf_cons s8 ftOf_nil) (by kernel_rfl) (fun h => (Bool.false_ne_true h).elim) r37
/- 84 loop.example/g00513/laws.eqManifest -/
noncomputable def e84 : FE := ⟨[(true, [.i .i64, .i .i64, .i .i64, .i .i64, .l c3, .i .i64]), (true, [.i .i64, .i .i64, .i .i64, .i .i64, .l c3, .i .i64])], [(false, [.b])], true, false, fun x => some (eqb x.1 x.2)⟩
noncomputable def ft84 : Nat → Option FE := ftOf [(8, e8)]
def hint84 : Nat → Hint := fun _ => {}
def ord84 : Nat → List Nat := fun _ => []
theorem en84 (n : Nat) (a0 : Int × Int × Int × Int × List (Int) × Int) (a1 : Int × Int × Int × Int × List (Int) × Int) : runF tab ft84 hint84 ord84 Tryz.f84 [(true, [.i .i64, .i .i64, .i .i64, .i .i64, .l c3, .i .i64]), (true, [.i .i64, .i .i64, .i .i64, .i .i64, .l c3, .i .i64])] [(false, [.b])] true n (a0, a1) =
  (bif (a0.1 != a1.1) then
  (some false)
  else (bif (a0.2.1 != a1.2.1) then
    (some false)
    else (bif (a0.2.2.1 != a1.2.2.1) then
      (some false)
      else (bif (a0.2.2.2.1 != a1.2.2.2.1) then
        (some false)
        else (bif (!(eqb a0.2.2.2.2.1 a1.2.2.2.2.1)) then
          (some false)
          else (bif (a0.2.2.2.2.2 != a1.2.2.2.2.2) then
            (some false)
            else (some true)))))) : Option (Bool)) := by kernel_rfl
theorem if84 (a b : Int × Int × Int × Int × List (Int) × Int) : (a.1, a.2.1, a.2.2.1, a.2.2.2.1, a.2.2.2.2.1, a.2.2.2.2.2, ()) = (b.1, b.2.1, b.2.2.1, b.2.2.2.1, b.2.2.2.2.1, b.2.2.2.2.2, ()) ↔ a = b := by simp [Prod.ext_iff, and_assoc]
theorem r84 : ∀ x y, okP e84.ps x → e84.φ x = some y → ∃ n, runF tab ft84 hint84 ord84 Tryz.f84 e84.ps e84.rs e84.fr n x = some y := by
  rintro ⟨a, b⟩ y ok h
  obtain rfl : eqb a b = y := Option.some.inj h
  exact ⟨0, (en84 0 a b).trans ((eqPn (eqPn (eqPn (eqPn (eqP (eqPn eqT)))))).trans (congrArg some (eqb_iff (if84 a b))))⟩
theorem s84 : Sat Tryz.prog 84 e84 := sat_of_run Tryz.func84 (c := bodyOf Tryz.f84) (by kernel_rfl) (ne_of_dec (by kernel_rfl)) mixed tab_ok (by kernel_rfl) (ftOf_cons s8 ftOf_nil) (by kernel_rfl) (fun h => (Bool.false_ne_true h).elim) r84
/- 38 loop.example/g00513/laws.eqManifestS -/
noncomputable def e38 : FE := ⟨[(false, [.l c117]), (false, [.l c117])], [(false, [.b])], true, false, fun x => some (eqb x.1 x.2)⟩
noncomputable def ft38 : Nat → Option FE := ftOf [(84, e84)]
def hint38 : Nat → Hint := fun
  | 4 => ⟨[0, 1, 5], [], [], [], [4], []⟩
  | _ => {}
def ord38 : Nat → List Nat := fun
  | 6 => [0, 1, 2, 3, 4, 5, 6, 7, 8, 9]
  | _ => []
noncomputable def b38_rrlrll : Code := Code.l (Code.l (Code.r (Code.l (Code.r (Code.r (bodyOf Tryz.f38))))))
noncomputable def b38_rrr : Code := Code.r (Code.r (Code.r (bodyOf Tryz.f38)))
def S38_4 (x0 : List (Int × Int × Int × Int × List (Int) × Int)) (x1 : List (Int × Int × Int × Int × List (Int) × Int)) (x2 : Int) : St := ⟨[.d false c117 x0, .d false c117 x1, .bad, .bad, .bad, .v (.int .i64 x2), .bad, .bad, .bad, .bad, .bad, .bad, .bad, .bad, .bad, .bad, .bad, .bad, .bad, .bad, .bad, .bad, .bad, .bad, .bad, .bad, .bad], []⟩
def X38_4_r (x0 : Bool) : St := ⟨[.bad, .bad, .bad, .bad, .v (.bool x0), .bad, .bad, .bad, .bad, .bad, .bad, .bad, .bad, .bad, .bad, .bad, .bad, .bad, .bad, .bad, .bad, .bad, .bad, .bad, .bad, .bad, .bad], []⟩
def X38_4_0 : St := ⟨[.bad, .bad, .bad, .bad, .bad, .bad, .bad, .bad, .bad, .bad, .bad, .bad, .bad, .bad, .bad, .bad, .bad, .bad, .bad, .bad, .bad, .bad, .bad, .bad, .bad, .bad, .bad], []⟩
theorem en38 (n : Nat) (a0 : (List (Int × Int × Int × Int × List (Int) × Int))) (a1 : (List (Int × Int × Int × Int × List (Int) × Int))) : runF tab ft38 hint38 ord38 Tryz.f38 [(false, [.l c117]), (false, [.l c117])] [(false, [.b])] true n (a0, a1) =
  (bif ((a0.length : Int) != (a1.length : Int)) then
  (some false)
  else (loopK (codeK tab ft38 hint38 ord38 b38_rrlrll n) (hint38 4) n (S38_4 a0 a1 0) (Ex.block 0 (sK tab ft38 hint38 ord38 n b38_rrr (retK tab Tryz.f38 true [(false, [.b])])))) : Option (Bool)) := by kernel_rfl
theorem st38_4 {R : Type} (n m : Nat) (K : Ex → St → Option R) (x0 : List (Int × Int × Int × Int × List (Int) × Int)) (x1 : List (Int × Int × Int × Int × List (Int) × Int)) (x2 : Int) : loopK (codeK tab ft38 hint38 ord38 b38_rrlrll n) (hint38 4) (m + 1) (S38_4 x0 x1 x2) K =
  bif (decide (x2 < (x0.length : Int))) then
  (bif decide (0 ≤ x2) && decide (x2 < (x0.length : Int)) then
    (bif decide (0 ≤ x2) && decide (x2 < (x1.length : Int)) then
      (bif (!(eqb (x0.getD x2.toNat d117) (x1.getD x2.toNat d117))) then
        (K .ret (X38_4_r false))
        else (loopK (codeK tab ft38 hint38 ord38 b38_rrlrll n) (hint38 4) m (S38_4 x0 x1 (IntKind.wrap .i64 (x2 + 1))) K))
      else (none))
    else (none))
  else (K (.exit 0) (X38_4_0 )) := by kernel_rfl
theorem ex38_4_r (n : Nat) (x0 : Bool) : (Ex.block 0 (sK tab ft38 hint38 ord38 n b38_rrr (retK tab Tryz.f38 true [(false, [.b])]))) .ret (X38_4_r x0) =
  (some x0 : Option (Bool)) := by kernel_rfl
theorem ex38_4_0 (n : Nat) : (Ex.block 0 (sK tab ft38 hint38 ord38 n b38_rrr (retK tab Tryz.f38 true [(false, [.b])]))) (.exit 0) (X38_4_0 ) =
  (some true : Option (Bool)) := by kernel_rfl
theorem r38 : ∀ x y, okP e38.ps x → e38.φ x = some y → ∃ n, runF tab ft38 hint38 ord38 Tryz.f38 e38.ps e38.rs e38.fr n x = some y := by
  rintro ⟨a, b⟩ y ok h
  obtain rfl : eqb a b = y := Option.some.inj h
  refine ⟨a.length + 1, (en38 _ a b).trans (eqHead fun hab => ?_)⟩
  exact eqLoop0 (CT.dfltL c117) (fun x y => !(eqb x y)) (fun _ _ => rfl) (fun m x y i => loopK (codeK tab ft38 hint38 ord38 b38_rrlrll (a.length + 1)) (hint38 4) m (S38_4 x y i) (Ex.block 0 (sK tab ft38 hint38 ord38 (a.length + 1) b38_rrr (retK tab Tryz.f38 true [(false, [.b])])))) ((Ex.block 0 (sK tab ft38 hint38 ord38 (a.length + 1) b38_rrr (retK tab Tryz.f38 true [(false, [.b])]))) (.exit 0) X38_4_0) ((Ex.block 0 (sK tab ft38 hint38 ord38 (a.length + 1) b38_rrr (retK tab Tryz.f38 true [(false, [.b])]))) .ret (X38_4_r false)) (ex38_4_0 _) (ex38_4_r _ false) (fun m x y i => st38_4 _ m _ x y i) a b hab ok.1.1
theorem s38 : Sat Tryz.prog 38 e38 := sat_of_run Tryz.func38 (c := bodyOf Tryz.f38) (by kernel_rfl) (ne_of_dec (by kernel_rfl)) mixed tab_ok (by kernel_rfl) (ftOf_cons s84 ftOf_nil) (by kernel_rfl) (fun h => (Bool.false_ne_true h).elim) r38
/- 113 loop.example/g00513/laws.eqProof -/
noncomputable def e113 : FE := ⟨[(true, [.i .i64, .i .i64, .i .i64]), (true, [.i .i64, .i .i64, .i .i64])], [(false, [.b])], true, false, fun x => some (eqb x.1 x.2)⟩
def ft113 : Nat → Option FE := ftOf []
def hint113 : Nat → Hint := fun _ => {}
def ord113 : Nat → List Nat := fun _ => []
theorem en113 (n : Nat) (a0 : Int × Int × Int) (a1 : Int × Int × Int) : runF tab ft113 hint113 ord113 Tryz.f113 [(true, [.i .i64, .i .i64, .i .i64]), (true, [.i .i64, .i .i64, .i .i64])] [(false, [.b])] true n (a0, a1) =
  (bif (a0.1 != a1.1) then
  (some false)
  else (bif (a0.2.1 != a1.2.1) then
    (some false)
    else (bif (a0.2.2 != a1.2.2) then
      (some false)
      else (some true))) : Option (Bool)) := by kernel_rfl
theorem if113 (a b : Int × Int × Int) : (a.1, a.2.1, a.2.2, ()) = (b.1, b.2.1, b.2.2, ()) ↔ a = b := by simp [Prod.ext_iff, and_assoc]
theorem r113 : ∀ x y, okP e113.ps x → e113.φ x = some y → ∃ n, runF tab ft113 hint113 ord113 Tryz.f113 e113.ps e113.rs e113.fr n x = some y := by
  rintro ⟨a, b⟩ y ok h
  obtain rfl : eqb a b = y := Option.some.inj h
  exact ⟨0, (en113 0 a b).trans ((eqPn (eqPn (eqPn eqT))).trans (congrArg some (eqb_iff (if113 a b))))⟩
theorem s113 : Sat Tryz.prog 113 e113 := sat_of_run Tryz.func113 (c := bodyOf Tryz.f113) (by kernel_rfl) (ne_of_dec (by kernel_rfl)) mixed tab_ok (by kernel_rfl) ftOf_nil (by kernel_rfl) (fun h => (Bool.false_ne_true h).elim) r113
/- 85 loop.example/g00513/laws.eqProofS -/
noncomputable def e85 : FE := ⟨[(false, [.l c176]), (false, [.l c176])], [(false, [.b])], true, false, fun x => some (eqb x.1 x.2)⟩
noncomputable def ft85 : Nat → Option FE := ftOf [(113, e113)]
def hint85 : Nat → Hint := fun
  | 4 => ⟨[0, 1, 5], [], [], [], [4], []⟩
  | _ => {}
def ord85 : Nat → List Nat := fun
  | 6 => [0, 1, 2, 3, 4, 5, 6, 7, 8, 9]
  | _ => []
noncomputable def b85_rrlrll : Code := Code.l (Code.l (Code.r (Code.l (Code.r (Code.r (bodyOf Tryz.f85))))))
noncomputable def b85_rrr : Code := Code.r (Code.r (Code.r (bodyOf Tryz.f85)))
def S85_4 (x0 : List (Int × Int × Int)) (x1 : List (Int × Int × Int)) (x2 : Int) : St := ⟨[.d false c176 x0, .d false c176 x1, .bad, .bad, .bad, .v (.int .i64 x2), .bad, .bad, .bad, .bad, .bad, .bad, .bad, .bad, .bad, .bad, .bad, .bad, .bad, .bad, .bad, .bad, .bad, .bad, .bad, .bad, .bad], []⟩
def X85_4_r (x0 : Bool) : St := ⟨[.bad, .bad, .bad, .bad, .v (.bool x0), .bad, .bad, .bad, .bad, .bad, .bad, .bad, .bad, .bad, .bad, .bad, .bad, .bad, .bad, .bad, .bad, .bad, .bad, .bad, .bad, .bad, .bad], []⟩
def X85_4_0 : St := ⟨[.bad, .bad, .bad, .bad, .bad, .bad, .bad, .bad, .bad, .bad, .bad, .bad, .bad, .bad, .bad, .bad, .bad, .bad, .bad, .bad, .bad, .bad, .bad, .bad, .bad, .bad, .bad], []⟩
theorem en85 (n : Nat) (a0 : (List (Int × Int × Int))) (a1 : (List (Int × Int × Int))) : runF tab ft85 hint85 ord85 Tryz.f85 [(false, [.l c176]), (false, [.l c176])] [(false, [.b])] true n (a0, a1) =
  (bif ((a0.length : Int) != (a1.length : Int)) then
  (some false)
  else (loopK (codeK tab ft85 hint85 ord85 b85_rrlrll n) (hint85 4) n (S85_4 a0 a1 0) (Ex.block 0 (sK tab ft85 hint85 ord85 n b85_rrr (retK tab Tryz.f85 true [(false, [.b])])))) : Option (Bool)) := by kernel_rfl
theorem st85_4 {R : Type} (n m : Nat) (K : Ex → St → Option R) (x0 : List (Int × Int × Int)) (x1 : List (Int × Int × Int)) (x2 : Int) : loopK (codeK tab ft85 hint85 ord85 b85_rrlrll n) (hint85 4) (m + 1) (S85_4 x0 x1 x2) K =
  bif (decide (x2 < (x0.length : Int))) then
  (bif decide (0 ≤ x2) && decide (x2 < (x0.length : Int)) then
    (bif decide (0 ≤ x2) && decide (x2 < (x1.length : Int)) then
      (bif (!(eqb (x0.getD x2.toNat d176) (x1.getD x2.toNat d176))) then
        (K .ret (X85_4_r false))
        else (loopK (codeK tab ft85 hint85 ord85 b85_rrlrll n) (hint85 4) m (S85_4 x0 x1 (IntKind.wrap .i64 (x2 + 1))) K))
      else (none))
    else (none))
  else (K (.exit 0) (X85_4_0 )) := by kernel_rfl
theorem ex85_4_r (n : Nat) (x0 : Bool) : (Ex.block 0 (sK tab ft85 hint85 ord85 n b85_rrr (retK tab Tryz.f85 true [(false, [.b])]))) .ret (X85_4_r x0) =
  (some x0 : Option (Bool)) := by kernel_rfl
theorem ex85_4_0 (n : Nat) : (Ex.block 0 (sK tab ft85 hint85 ord85 n b85_rrr (retK tab Tryz.f85 true [(false, [.b])]))) (.exit 0) (X85_4_0 ) =
  (some true : Option (Bool)) := by kernel_rfl
theorem r85 : ∀ x y, okP e85.ps x → e85.φ x = some y → ∃ n, runF tab ft85 hint85 ord85 Tryz.f85 e85.ps e85.rs e85.fr n x = some y := by
  rintro ⟨a, b⟩ y ok h
  obtain rfl : eqb a b = y := Option.some.inj h
  refine ⟨a.length + 1, (en85 _ a b).trans (eqHead fun hab => ?_)⟩
  exact eqLoop0 (CT.dfltL c176) (fun x y => !(eqb x y)) (fun _ _ => rfl) (fun m x y i => loopK (codeK tab ft85 hint85 ord85 b85_rrlrll (a.length + 1)) (hint85 4) m (S85_4 x y i) (Ex.block 0 (sK tab ft85 hint85 ord85 (a.length + 1) b85_rrr (retK tab Tryz.f85 true [(false, [.b])])))) ((Ex.block 0 (sK tab ft85 hint85 ord85 (a.length + 1) b85_rrr (retK tab Tryz.f85 true [(false, [.b])]))) (.exit 0) X85_4_0) ((Ex.block 0 (sK tab ft85 hint85 ord85 (a.length + 1) b85_rrr (retK tab Tryz.f85 true [(false, [.b])]))) .ret (X85_4_r false)) (ex85_4_0 _) (ex85_4_r _ false) (fun m x y i => st85_4 _ m _ x y i) a b hab ok.1.1
theorem s85 : Sat Tryz.prog 85 e85 := sat_of_run Tryz.func85 (c := bodyOf Tryz.f85) (by kernel_rfl) (ne_of_dec (by kernel_rfl)) mixed tab_ok (by kernel_rfl) (ftOf_cons s113 ftOf_nil) (by kernel_rfl) (fun h => (Bool.false_ne_true h).elim) r85
/- 39 loop.example/g00513/laws.eqLedger -/
noncomputable def e39 : FE := ⟨[(true, [.l c176]), (true, [.l c176])], [(false, [.b])], true, false, fun x => some (eqb x.1 x.2)⟩
noncomputable def ft39 : Nat → Option FE := ftOf [(85, e85)]
def hint39 : Nat → Hint := fun _ => {}
def ord39 : Nat → List Nat := fun _ => []
theorem en39 (n : Nat) (a0 : (List (Int × Int × Int))) (a1 : (List (Int × Int × Int))) : runF tab ft39 hint39 ord39 Tryz.f39 [(true, [.l c176]), (true, [.l c176])] [(false, [.b])] true n (a0, a1) =
  (bif (!(eqb a0 a1)) then
  (some false)
  else (some true) : Option (Bool)) := by kernel_rfl
theorem if39 (a b : (List (Int × Int × Int))) : (a, ()) = (b, ()) ↔ a = b := by simp [Prod.ext_iff, and_assoc]
theorem r39 : ∀ x y, okP e39.ps x → e39.φ x = some y → ∃ n, runF tab ft39 hint39 ord39 Tryz.f39 e39.ps e39.rs e39.fr n x = some y := by
  rintro ⟨a, b⟩ y ok h
  obtain rfl : eqb a b = y := Option.some.inj h
  exact ⟨0, (en39 0 a b).trans ((eqP eqT).trans (congrArg some (eqb_iff (if39 a b))))⟩
theorem s39 : Sat Tryz.prog 39 e39 := sat_of_run Tryz.func39 (c := bodyOf Tryz.f39) (by kernel_rfl) (ne_of_dec (by kernel_rfl)) mixed tab_ok (by kernel_rfl) (ftOf_cons s85 ftOf_nil) (by kernel_rfl) (fun h => (Bool.false_ne_true h).elim) r39
/- 9 loop.example/g00513/laws.eqWorld -/
noncomputable def e9 : FE := ⟨[(true, [.i .i64, .l c176, .l c167, .i .i64, .i .i64, .i .i64, .i .i64, .l c171, .l c176, .i .i64, .l c110, .l c114, .l c3, .l c3, .l c117, .l c176, .i .i64, .i .i64, .i .i64]), (true, [.i .i64, .l c176, .l c167, .i .i64, .i .i64, .i .i64, .i .i64, .l c171, .l c176, .i .i64, .l c110, .l c114, .l c3, .l c3, .l c117, .l c176, .i .i64, .i .i64, .i .i64])], [(false, [.b])], true, false, fun x => some (eqb x.1 x.2)⟩
noncomputable def ft9 : Nat → Option FE := ftOf [(8, e8), (33, e33), (34, e34), (35, e35), (36, e36), (37, e37), (38, e38), (39, e39)]
def hint9 : Nat → Hint := fun _ => {}
def ord9 : Nat → List Nat := fun _ => []
theorem en9 (n : Nat) (a0 : Int × (List (Int × Int × Int)) × (List (Int × List (List (Int)))) × Int × Int × Int × Int × (List (Int × Int × Int × (List (Int × List (Int) × List (Int))) × Int)) × (List (Int × Int × Int)) × Int × (List (Int × (List (Int × Int × Int × (List (Int × List (Int) × List (Int))) × Int)))) × (List (Int × Int × List (Int) × (List (Int × Int × Int × Int × List (List (Int)))) × (List (Int × List (List (Int)))) × Int)) × List (Int) × List (Int) × (List (Int × Int × Int × Int × List (Int) × Int)) × (List (Int × Int × Int)) × Int × Int × Int) (a1 : Int × (List (Int × Int × Int)) × (List (Int × List (List (Int)))) × Int × Int × Int × Int × (List (Int × Int × Int × (List (Int × List (Int) × List (Int))) × Int)) × (List (Int × Int × Int)) × Int × (List (Int × (List (Int × Int × Int × (List (Int × List (Int) × List (Int))) × Int)))) × (List (Int × Int × List (Int) × (List (Int × Int × Int × Int × List (List (Int)))) × (List (Int × List (List (Int)))) × Int)) × List (Int) × List (Int) × (List (Int × Int × Int × Int × List (Int) × Int)) × (List (Int × Int × Int)) × Int × Int × Int) : runF tab ft9 hint9 ord9 Tryz.f9 [(true, [.i .i64, .l c176, .l c167, .i .i64, .i .i64, .i .i64, .i .i64, .l c171, .l c176, .i .i64, .l c110, .l c114, .l c3, .l c3, .l c117, .l c176, .i .i64, .i .i64, .i .i64]), (true, [.i .i64, .l c176, .l c167, .i .i64, .i .i64, .i .i64, .i .i64, .l c171, .l c176, .i .i64, .l c110, .l c114, .l c3, .l c3, .l c117, .l c176, .i .i64, .i .i64, .i .i64])] [(false, [.b])] true n (a0, a1) =
  (bif (!(eqb (a0.1, a0.2.1) (a1.1, a1.2.1))) then
  (some false)
  else (bif (!(eqb (a0.2.2.1, a0.2.2.2.1, a0.2.2.2.2.1, a0.2.2.2.2.2.1, a0.2.2.2.2.2.2.1, a0.2.2.2.2.2.2.2.1, a0.2.2.2.2.2.2.2.2.1, a0.2.2.2.2.2.2.2.2.2.1) (a1.2.2.1, a1.2.2.2.1, a1.2.2.2.2.1, a1.2.2.2.2.2.1, a1.2.2.2.2.2.2.1, a1.2.2.2.2.2.2.2.1, a1.2.2.2.2.2.2.2.2.1, a1.2.2.2.2.2.2.2.2.2.1))) then
    (some false)
    else (bif (!(eqb a0.2.2.2.2.2.2.2.2.2.2.1 a1.2.2.2.2.2.2.2.2.2.2.1)) then
      (some false)
      else (bif (!(eqb a0.2.2.2.2.2.2.2.2.2.2.2.1 a1.2.2.2.2.2.2.2.2.2.2.2.1)) then
        (some false)
        else (bif (!(eqb a0.2.2.2.2.2.2.2.2.2.2.2.2.1 a1.2.2.2.2.2.2.2.2.2.2.2.2.1)) then
          (some false)
          else (bif (!(eqb a0.2.2.2.2.2.2.2.2.2.2.2.2.2.1 a1.2.2.2.2.2.2.2.2.2.2.2.2.2.1)) then
            (some false)
            else (bif (!(eqb a0.2.2.2.2.2.2.2.2.2.2.2.2.2.2.1 a1.2.2.2.2.2.2.2.2.2.2.2.2.2.2.1)) then
              (some false)
              else (bif (!(eqb a0.2.2.2.2.2.2.2.2.2.2.2.2.2.2.2.1 a1.2.2.2.2.2.2.2.2.2.2.2.2.2.2.2.1)) then
                (some false)
                else (bif (a0.2.2.2.2.2.2.2.2.2.2.2.2.2.2.2.2.1 != a1.2.2.2.2.2.2.2.2.2.2.2.2.2.2.2.2.1) then
                  (some false)
                  else (bif (a0.2.2.2.2.2.2.2.2.2.2.2.2.2.2.2.2.2.1 != a1.2.2.2.2.2.2.2.2.2.2.2.2.2.2.2.2.2.1) then
                    (some false)
                    else (bif (a0.2.2.2.2.2.2.2.2.2.2.2.2.2.2.2.2.2.2 != a1.2.2.2.2.2.2.2.2.2.2.2.2.2.2.2.2.2.2) then
                      (some false)
                      else (some true))))))))))) : Option (Bool)) := by kernel_rfl
theorem if9 (a b : Int × (List (Int × Int × Int)) × (List (Int × List (List (Int)))) × Int × Int × Int × Int × (List (Int × Int × Int × (List (Int × List (Int) × List (Int))) × Int)) × (List (Int × Int × Int)) × Int × (List (Int × (List (Int × Int × Int × (List (Int × List (Int) × List (Int))) × Int)))) × (List (Int × Int × List (Int) × (List (Int × Int × Int × Int × List (List (Int)))) × (List (Int × List (List (Int)))) × Int)) × List (Int) × List (Int) × (List (Int × Int × Int × Int × List (Int) × Int)) × (List (Int × Int × Int)) × Int × Int × Int) : ((a.1, a.2.1), (a.2.2.1, a.2.2.2.1, a.2.2.2.2.1, a.2.2.2.2.2.1, a.2.2.2.2.2.2.1, a.2.2.2.2.2.2.2.1, a.2.2.2.2.2.2.2.2.1, a.2.2.2.2.2.2.2.2.2.1), a.2.2.2.2.2.2.2.2.2.2.1, a.2.2.2.2.2.2.2.2.2.2.2.1, a.2.2.2.2.2.2.2.2.2.2.2.2.1, a.2.2.2.2.2.2.2.2.2.2.2.2.2.1, a.2.2.2.2.2.2.2.2.2.2.2.2.2.2.1, a.2.2.2.2.2.2.2.2.2.2.2.2.2.2.2.1, a.2.2.2.2.2.2.2.2.2.2.2.2.2.2.2.2.1, a.2.2.2.2.2.2.2.2.2.2.2.2.2.2.2.2.2.1, a.2.2.2.2.2.2.2.2.2.2.2.2.2.2.2.2.2.2, ()) = ((b.1, b.2.1), (b.2.2.1, b.2.2.2.1, b.2.2.2.2.1, b.2.2.2.2.2.1, b.2.2.2.2.2.2.1, b.2.2.2.2.2.2.2.1, b.2.2.2.2.2.2.2.2.1, b.2.2.2.2.2.2.2.2.2.1), b.2.2.2.2.2.2.2.2.2.2.1, b.2.2.2.2.2.2.2.2.2.2.2.1, b.2.2.2.2.2.2.2.2.2.2.2.2.1, b.2.2.2.2.2.2.2.2.2.2.2.2.2.1, b.2.2.2.2.2.2.2.2.2.2.2.2.2.2.1, b.2.2.2.2.2.2.2.2.2.2.2.2.2.2.2.1, b.2.2.2.2.2.2.2.2.2.2.2.2.2.2.2.2.1, b.2.2.2.2.2.2.2.2.2.2.2.2.2.2.2.2.2.1, b.2.2.2.2.2.2.2.2.2.2.2.2.2.2.2.2.2.2, ()) ↔ a = b := by simp [Prod.ext_iff, and_assoc]
theorem r9 : ∀ x y, okP e9.ps x → e9.φ x = some y → ∃ n, runF tab ft9 hint9 ord9 Tryz.f9 e9.ps e9.rs e9.fr n x = some y := by
  rintro ⟨a, b⟩ y ok h
  obtain rfl : eqb a b = y := Option.some.inj h
  exact ⟨0, (en9 0 a b).trans ((eqP (eqP (eqP (eqP (eqP (eqP (eqP (eqP (eqPn (eqPn (eqPn eqT))))))))))).trans (congrArg some (eqb_iff (if9 a b))))⟩
theorem s9 : Sat Tryz.prog 9 e9 := sat_of_run Tryz.func9 (c := bodyOf Tryz.f9) (by kernel_rfl) (ne_of_dec (by kernel_rfl)) mixed tab_ok (by kernel_rfl) (ftOf_cons s8 (ftOf_cons s33 (ftOf_cons s34 (ftOf_cons s35 (ftOf_cons s36 (ftOf_cons s37 (ftOf_cons s38 (ftOf_cons s39 ftOf_nil)))))))) (by kernel_rfl) (fun h => (Bool.false_ne_true h).elim) r9
end Go.Proofs.Ai
