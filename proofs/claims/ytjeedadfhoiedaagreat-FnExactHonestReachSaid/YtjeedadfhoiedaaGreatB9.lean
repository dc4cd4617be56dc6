/- A part of the proof that the law FnExactHonestReach returns true: contracts of the functions that it calls, or the plain facts behind them; each holds for every input that its premises name. -/
import Derived.Test.YtjeedadfhoiedaaGreatB7
import Derived.Test.YtjeedadfhoiedaaGreatB8
import Derived.Shelf.SlIterI.Nil
import Derived.Shelf.SortM.Plain
import Derived.Shelf.SortM.SortNone
import Derived.Ground.GgzProg
import Derived.Ground.SlgmProg
import Derived.WalkKit
import Derived.BigQuiet
import Derived.Deep.LoopGhost
import Derived.LoopTactic
namespace Go.Proofs
open Go.RowKit Go.Maps Go.Sort Go.Shelf

def Tryz.keysA_ren : Go.Shelf.Ren := ⟨fun | 7 => 71 | 10 => 106 | n => n, fun | 23 => 142 | 26 => 3 | 3 => 4 | 28 => 145 | 0 => 0 | 27 => 144 | 33 => 141 | 4 => 4 | n => n, fun | n => n⟩
theorem Tryz.keysA : Go.Proofs.SlLaysZI.n7 Tryz.prog Tryz.keysA_ren where
  mixed := by kernel_rfl
  f7 := ⟨Tryz.f71.name, by decide, Tryz.func71.trans (congrArg some (by kernel_rfl))⟩
  f10 := ⟨Tryz.f106.name, by decide, Tryz.func106.trans (congrArg some (by kernel_rfl))⟩
  t0 := Tryz.underlying0
  a0 := Tryz.isAgg0
  z0 := Tryz.sizeOf0
  v0 := Tryz.zeroValue0
  t4 := Tryz.underlying4
  a4 := Tryz.isAgg4
  z4 := Tryz.sizeOf4
  v4 := Tryz.zeroValue4
  t23 := Tryz.underlying142
  a23 := Tryz.isAgg142
  z23 := Tryz.sizeOf142
  v23 := Tryz.zeroValue142
  t26 := Tryz.underlying3
  a26 := Tryz.isAgg3
  z26 := Tryz.sizeOf3
  v26 := Tryz.zeroValue3
  t27 := Tryz.underlying144
  a27 := Tryz.isAgg144
  z27 := Tryz.sizeOf144
  v27 := Tryz.zeroValue144
  t28 := Tryz.underlying145
  a28 := Tryz.isAgg145
  z28 := Tryz.sizeOf145
  v28 := Tryz.zeroValue145
  t33 := Tryz.underlying141
  a33 := Tryz.isAgg141
  z33 := Tryz.sizeOf141
  v33 := Tryz.zeroValue141
def Tryz.sortedA_ren : Go.Shelf.Ren := ⟨fun | 6 => 70 | 8 => 104 | 9 => 105 | 11 => 126 | 13 => 128 | 12 => 127 | 23 => 148 | 24 => 149 | 14 => 139 | 15 => 140 | 16 => 141 | 17 => 142 | 18 => 143 | 19 => 144 | 20 => 145 | 21 => 146 | 22 => 147 | 25 => 152 | 26 => 153 | 27 => 154 | 28 => 155 | 29 => 156 | 30 => 138 | 31 => 157 | n => n, fun | 26 => 3 | 28 => 145 | 24 => 36 | 0 => 0 | 3 => 3 | 37 => 220 | 48 => 242 | 50 => 244 | 4 => 4 | 40 => 234 | 39 => 233 | 45 => 239 | 5 => 5 | 9 => 9 | 51 => 247 | 55 => 251 | 57 => 253 | 58 => 254 | 33 => 141 | n => n, fun | n => n⟩
theorem Tryz.sortedA : Go.Proofs.SlLaysZI.n6 Tryz.prog Tryz.sortedA_ren where
  mixed := by kernel_rfl
  f6 := ⟨Tryz.f70.name, by decide, Tryz.func70.trans (congrArg some (by kernel_rfl))⟩
  f8 := ⟨Tryz.f104.name, by decide, Tryz.func104.trans (congrArg some (by kernel_rfl))⟩
  f11 := ⟨Tryz.f126.name, by decide, Tryz.func126.trans (congrArg some (by kernel_rfl))⟩
  t0 := Tryz.underlying0
  a0 := Tryz.isAgg0
  z0 := Tryz.sizeOf0
  v0 := Tryz.zeroValue0
  t24 := Tryz.underlying36
  a24 := Tryz.isAgg36
  z24 := Tryz.sizeOf36
  v24 := Tryz.zeroValue36
  t26 := Tryz.underlying3
  a26 := Tryz.isAgg3
  z26 := Tryz.sizeOf3
  v26 := Tryz.zeroValue3
  t28 := Tryz.underlying145
  a28 := Tryz.isAgg145
  z28 := Tryz.sizeOf145
  v28 := Tryz.zeroValue145
  i26 := by kernel_rfl
def Tryz.sortA_ren : Go.Shelf.Ren := ⟨fun | 5 => 105 | 8 => 128 | 7 => 127 | 19 => 148 | 20 => 149 | 10 => 139 | 11 => 140 | 12 => 141 | 13 => 142 | 14 => 143 | 15 => 144 | 16 => 145 | 17 => 146 | 18 => 147 | 30 => 152 | 31 => 153 | 32 => 154 | 33 => 155 | 34 => 156 | 35 => 138 | 40 => 157 | n => n, fun | 23 => 36 | 25 => 3 | 3 => 3 | 32 => 220 | 22 => 36 | 0 => 0 | 44 => 242 | 46 => 244 | 4 => 4 | 36 => 234 | 35 => 233 | 41 => 239 | 5 => 5 | 9 => 9 | 53 => 247 | 57 => 251 | 63 => 253 | 64 => 254 | n => n, fun | n => n⟩
theorem Tryz.sortA : Go.Proofs.SlLaysM.n5 Tryz.prog Tryz.sortA_ren where
  mixed := by kernel_rfl
  f5 := ⟨Tryz.f105.name, by decide, Tryz.func105.trans (congrArg some (by kernel_rfl))⟩
  f7 := ⟨Tryz.f127.name, by decide, Tryz.func127.trans (congrArg some (by kernel_rfl))⟩
  f8 := Tryz.func128.trans (congrArg some (by kernel_rfl))
  f10 := ⟨Tryz.f139.name, by decide, Tryz.func139.trans (congrArg some (by kernel_rfl))⟩
  f11 := ⟨Tryz.f140.name, by decide, Tryz.func140.trans (congrArg some (by kernel_rfl))⟩
  f12 := ⟨Tryz.f141.name, by decide, Tryz.func141.trans (congrArg some (by kernel_rfl))⟩
  f13 := ⟨Tryz.f142.name, by decide, Tryz.func142.trans (congrArg some (by kernel_rfl))⟩
  f14 := ⟨Tryz.f143.name, by decide, Tryz.func143.trans (congrArg some (by kernel_rfl))⟩
  f15 := ⟨Tryz.f144.name, by decide, Tryz.func144.trans (congrArg some (by kernel_rfl))⟩
  f16 := ⟨Tryz.f145.name, by decide, Tryz.func145.trans (congrArg some (by kernel_rfl))⟩
  f17 := ⟨Tryz.f146.name, by decide, Tryz.func146.trans (congrArg some (by kernel_rfl))⟩
  f18 := ⟨Tryz.f147.name, by decide, Tryz.func147.trans (congrArg some (by kernel_rfl))⟩
  f19 := Tryz.func148.trans (congrArg some (by kernel_rfl))
  f20 := Tryz.func149.trans (congrArg some (by kernel_rfl))
  f30 := ⟨Tryz.f152.name, by decide, Tryz.func152.trans (congrArg some (by kernel_rfl))⟩
  f31 := Tryz.func153.trans (congrArg some (by kernel_rfl))
  f32 := Tryz.func154.trans (congrArg some (by kernel_rfl))
  f33 := ⟨Tryz.f155.name, by decide, Tryz.func155.trans (congrArg some (by kernel_rfl))⟩
  f34 := ⟨Tryz.f156.name, by decide, Tryz.func156.trans (congrArg some (by kernel_rfl))⟩
  f35 := ⟨Tryz.f138.name, by decide, Tryz.func138.trans (congrArg some (by kernel_rfl))⟩
  f40 := ⟨Tryz.f157.name, by decide, Tryz.func157.trans (congrArg some (by kernel_rfl))⟩
  t0 := Tryz.underlying0
  a0 := Tryz.isAgg0
  z0 := Tryz.sizeOf0
  v0 := Tryz.zeroValue0
  t3 := Tryz.underlying3
  a3 := Tryz.isAgg3
  z3 := Tryz.sizeOf3
  v3 := Tryz.zeroValue3
  t4 := Tryz.underlying4
  a4 := Tryz.isAgg4
  z4 := Tryz.sizeOf4
  v4 := Tryz.zeroValue4
  t5 := Tryz.underlying5
  a5 := Tryz.isAgg5
  z5 := Tryz.sizeOf5
  v5 := Tryz.zeroValue5
  t9 := Tryz.underlying9
  a9 := Tryz.isAgg9
  z9 := Tryz.sizeOf9
  v9 := Tryz.zeroValue9
  t22 := Tryz.underlying36
  a22 := Tryz.isAgg36
  z22 := Tryz.sizeOf36
  v22 := Tryz.zeroValue36
  t23 := Tryz.underlying36
  a23 := Tryz.isAgg36
  z23 := Tryz.sizeOf36
  v23 := Tryz.zeroValue36
  t25 := Tryz.underlying3
  a25 := Tryz.isAgg3
  z25 := Tryz.sizeOf3
  v25 := Tryz.zeroValue3
  t32 := Tryz.underlying220
  a32 := Tryz.isAgg220
  z32 := Tryz.sizeOf220
  v32 := Tryz.zeroValue220
  t35 := Tryz.underlying233
  a35 := Tryz.isAgg233
  z35 := Tryz.sizeOf233
  v35 := Tryz.zeroValue233
  t36 := Tryz.underlying234
  a36 := Tryz.isAgg234
  z36 := Tryz.sizeOf234
  v36 := Tryz.zeroValue234
  t41 := Tryz.underlying239
  a41 := Tryz.isAgg239
  z41 := Tryz.sizeOf239
  v41 := Tryz.zeroValue239
  t44 := Tryz.underlying242
  a44 := Tryz.isAgg242
  z44 := Tryz.sizeOf242
  v44 := Tryz.zeroValue242
  t46 := Tryz.underlying244
  a46 := Tryz.isAgg244
  z46 := Tryz.sizeOf244
  v46 := Tryz.zeroValue244
  t53 := Tryz.underlying247
  a53 := Tryz.isAgg247
  z53 := Tryz.sizeOf247
  v53 := Tryz.zeroValue247
  t57 := Tryz.underlying251
  a57 := Tryz.isAgg251
  z57 := Tryz.sizeOf251
  v57 := Tryz.zeroValue251
  t63 := Tryz.underlying253
  a63 := Tryz.isAgg253
  z63 := Tryz.sizeOf253
  v63 := Tryz.zeroValue253
  t64 := Tryz.underlying254
  a64 := Tryz.isAgg254
  z64 := Tryz.sizeOf254
  v64 := Tryz.zeroValue254

theorem Tryz.sortsA (m : Nat) : AnyZI.SortsIn Tryz.prog Tryz.sortedA_ren Fence.wide m :=
  ⟨fun blk off cap ss W hH hblk hsz => callsIn_wide.2 (AnyM.slices_Sort_int Tryz.sortA blk off cap ss W hH hblk hsz),
   fun p cap W => callsIn_wide.2 (AnyM.slices_Sort_int_none Tryz.sortA p cap W)⟩
theorem keys31 (mb : Option Nat) (W : World) : Calls Tryz.prog 71 #[.map mb] W fun e w' => e = .returned (.func (.func 106) #[] #[.pointer (some ⟨W.heap.size, 0, none⟩)]) ∧ w' = W.alloc (.cells #[.map mb] 142) :=
  callsIn_wide.1 (AnyZI.keys_in Tryz.keysA Fence.wide 5 trivial rfl mb W)
theorem sorted31 (b nn : Nat) (D0 : DataW Unit) (R : Value → Option (DataW Unit × List MemPlace)) (w : World) (hown : w.ownsMap Tryz.prog 3 R b nn D0) (hmax : Maps.size D0 ≤ maxLen) (hbytes : Maps.size D0 * 8 ≤ 140737488355328) :
    Calls Tryz.prog 70 #[.func (.func 106) #[] #[.pointer (some ⟨w.heap.size, 0, none⟩)]] (w.alloc (.cells #[.map (some b)] 142)) fun e w' => ∃ (v : Value) (ss : List Int), e = .returned v ∧ ss.Perm (intKeys D0) ∧
      w'.ownsRow (w.alloc (.cells #[.map (some b)] 142)).heap.size 3 1 v ss.length ((ss.mergeSort (fun x y => decide (x ≤ y))).map encZ) ∧ (v = .slice none 0 0 ↔ ss = []) ∧ Below (w.alloc (.cells #[.map (some b)] 142)).heap.size (w.alloc (.cells #[.map (some b)] 142)) w' := by
  have hbl := hown.lt
  have hseq : SeqGives Fence.wide 2 Tryz.prog 106 #[.pointer (some ⟨w.heap.size, 0, none⟩)] encZ (fun ss => ss.Perm (intKeys D0)) (Maps.size D0) (w.alloc (.cells #[.map (some b)] 142)) :=
    AnyZI.keys_gives (ρ := Tryz.keysA_ren) { Tryz.keysA with } Fence.wide _ trivial rfl (by omega) w.heap.size b nn D0 _ (by simp) (by simp) (by
      obtain ⟨es, clock, hb, Ft, hs, hD⟩ := hown
      exact ⟨es, clock, (Below.heap_alloc _ _ b hbl).trans hb, Ft, hs, hD⟩)
  have cS := AnyZI.sorted_in Tryz.sortedA Fence.wide 5 trivial trivial trivial trivial rfl (by omega) (Tryz.sortsA _) (enters_of Tryz.func105 (by kernel_rfl) rfl) 106 #[.pointer (some ⟨w.heap.size, 0, none⟩)] trivial (enters_of Tryz.func106 (by kernel_rfl) rfl) _ _ hmax hbytes _ hseq
  exact callsIn_wide.1 cS
end Go.Proofs

set_option linter.unusedVariables false
set_option linter.unusedSimpArgs false
namespace Go.Proofs.Ai
open Go.RowKit
noncomputable section
/- 72 loop.example/g00513/impl.WithoutHostile$1 -/
noncomputable def ft72 : Nat → Option FE := ftOf [(73, e73)]
def hint72 : Nat → Hint := fun _ => {}
def ord72 : Nat → List Nat := fun _ => []
theorem en72 (n : Nat) (a0 : Int) (a1 : List (Int)) : runF tab ft72 hint72 ord72 Tryz.f72 [(false, [.i .i64]), (false, [.ptr [.l c3]])] [(false, [.b])] true n (a0, a1) =
  (bif (inB a0 0 (IntKind.wrap .i64 ((a1.length : Int) - 1))) then
  (bif decide (0 ≤ a0) && decide (a0 < (a1.length : Int)) then
    (some ((a1.getD a0.toNat d3) != 0))
    else (none))
  else (some false) : Option (Bool)) := by kernel_rfl
def G72 (n : Nat) (a0 : Int) (a1 : List (Int)) : Option (Bool) :=
  bif (inB a0 0 (IntKind.wrap .i64 ((a1.length : Int) - 1))) then
  (bif decide (0 ≤ a0) && decide (a0 < (a1.length : Int)) then
    (some ((a1.getD a0.toNat d3) != 0))
    else (none))
  else (some false)
theorem g72 (n : Nat) (a0 : Int) (a1 : List (Int)) : runF tab ft72 hint72 ord72 Tryz.f72 [(false, [.i .i64]), (false, [.ptr [.l c3]])] [(false, [.b])] true n (a0, a1) = G72 n a0 a1 := by
  refine (en72 n a0 a1).trans ?_
  unfold G72
  exact (cond_c (cond_c rfl rfl) rfl)
def e72 : FE := ⟨[(false, [.i .i64]), (false, [.ptr [.l c3]])], [(false, [.b])], true, false, fun x => some (!(hon x.2 x.1))⟩
theorem p72 : ∀ (a0 : Int) (a1 : List (Int)) y, okP e72.ps (a0, a1) → e72.φ (a0, a1) = some y → ∃ n, G72 n a0 a1 = some y := by
  intro a l y ok h
  obtain rfl : (!(hon l a)) = y := Option.some.inj h
  refine ⟨0, ?_⟩
  have hl : l.length ≤ maxLen := (show okL [.l c3] l from ok.2.1).1
  have hw : IntKind.wrap .i64 ((l.length : Int) - 1) = (l.length : Int) - 1 := wrap_id (by omega) (by simp only [maxLen] at hl; omega)
  unfold G72 inB hon
  rw [hw]
  by_cases h0 : 0 ≤ a
  · by_cases h1 : a < (l.length : Int)
    · have e1 : decide (0 ≤ a) = true := decide_eq_true h0
      have e2 : decide (a ≤ (l.length : Int) - 1) = true := decide_eq_true (by omega)
      have e3 : decide (a < (l.length : Int)) = true := decide_eq_true h1
      have e4 : decide (a < 0) = false := decide_eq_false (by omega)
      have e5 : decide (a ≥ (l.length : Int)) = false := decide_eq_false (by omega)
      rw [e1, e2, e3, e4, e5]
      rfl
    · have e1 : decide (0 ≤ a) = true := decide_eq_true h0
      have e2 : decide (a ≤ (l.length : Int) - 1) = false := decide_eq_false (by omega)
      have e4 : decide (a < 0) = false := decide_eq_false (by omega)
      have e5 : decide (a ≥ (l.length : Int)) = true := decide_eq_true (by omega)
      rw [e1, e2, e4, e5]
      rfl
  · have e1 : decide (0 ≤ a) = false := decide_eq_false h0
    have e4 : decide (a < 0) = true := decide_eq_true (by omega)
    rw [e1, e4]
    rfl
theorem r72 : ∀ x y, okP e72.ps x → e72.φ x = some y → ∃ n, runF tab ft72 hint72 ord72 Tryz.f72 e72.ps e72.rs e72.fr n x = some y := fun ⟨a0, a1⟩ y ok h =>
  match p72 _ _ y ok h with | ⟨n, hn⟩ => ⟨n, (g72 n _ _).trans hn⟩
theorem s72 : Sat Tryz.prog 72 e72 := sat_of_run Tryz.func72 (c := bodyOf Tryz.f72) (by kernel_rfl) (ne_of_dec (by kernel_rfl)) mixed tab_ok (by kernel_rfl) (ftOf_cons s73 ftOf_nil) (by kernel_rfl) (fun h => (Bool.false_ne_true h).elim) r72
/- 76 loop.example/g00513/impl.WithoutHostile$2 -/
noncomputable def ft76 : Nat → Option FE := ftOf [(72, e72)]
def hint76 : Nat → Hint := fun _ => {}
def ord76 : Nat → List Nat := fun _ => []
theorem en76 (n : Nat) (a0 : Int × Int × Int) (a1 : List (Int)) : runF tab ft76 hint76 ord76 Tryz.f76 [(true, [.i .i64, .i .i64, .i .i64]), (false, [.ptr [.clo 72 [.ptr [.l c3]]]])] [(false, [.b])] true n (a0, a1) =
  (bif (!(hon a1 a0.1)) then
  (some true)
  else (some (!(hon a1 a0.2.1))) : Option (Bool)) := by kernel_rfl
def G76 (n : Nat) (a0 : Int × Int × Int) (a1 : List (Int)) : Option (Bool) :=
  bif (!(hon a1 a0.1)) then
  (some true)
  else (some (!(hon a1 a0.2.1)))
theorem g76 (n : Nat) (a0 : Int × Int × Int) (a1 : List (Int)) : runF tab ft76 hint76 ord76 Tryz.f76 [(true, [.i .i64, .i .i64, .i .i64]), (false, [.ptr [.clo 72 [.ptr [.l c3]]]])] [(false, [.b])] true n (a0, a1) = G76 n a0 a1 := by
  refine (en76 n a0 a1).trans ?_
  unfold G76
  exact (cond_c rfl rfl)
def e76 : FE := ⟨[(true, [.i .i64, .i .i64, .i .i64]), (false, [.ptr [.clo 72 [.ptr [.l c3]]]])], [(false, [.b])], true, false, fun x => some (!(keepH x.2 x.1))⟩
theorem p76 : ∀ (a0 : Int × Int × Int) (a1 : List (Int)) y, okP e76.ps (a0, a1) → e76.φ (a0, a1) = some y → ∃ n, G76 n a0 a1 = some y := by
  intro e l y ok h
  obtain rfl : (!(keepH l e)) = y := Option.some.inj h
  refine ⟨0, ?_⟩
  unfold G76 keepH
  cases hon l e.1 <;> cases hon l e.2.1 <;> rfl
theorem r76 : ∀ x y, okP e76.ps x → e76.φ x = some y → ∃ n, runF tab ft76 hint76 ord76 Tryz.f76 e76.ps e76.rs e76.fr n x = some y := fun ⟨a0, a1⟩ y ok h =>
  match p76 _ _ y ok h with | ⟨n, hn⟩ => ⟨n, (g76 n _ _).trans hn⟩
theorem s76 : Sat Tryz.prog 76 e76 := sat_of_run Tryz.func76 (c := bodyOf Tryz.f76) (by kernel_rfl) (ne_of_dec (by kernel_rfl)) mixed tab_ok (by kernel_rfl) (ftOf_cons s72 ftOf_nil) (by kernel_rfl) (fun h => (Bool.false_ne_true h).elim) r76
/- 75 (loop.example/g00513/impl.Graph).edges -/
noncomputable def ft75 : Nat → Option FE := ftOf [(76, e76)]
def hint75 : Nat → Hint := fun
  | 3 => ⟨[1, 5, 9, 10, 11], [160], [5], [160], [], []⟩
  | _ => {}
def ord75 : Nat → List Nat := fun _ => []
noncomputable def b75_rrlrll : Code := Code.l (Code.l (Code.r (Code.l (Code.r (Code.r (bodyOf Tryz.f75))))))
noncomputable def b75_rrr : Code := Code.r (Code.r (Code.r (bodyOf Tryz.f75)))
def S75_3 (x0 : List (Int)) (x1 : List (Int × Int × Int)) (x2 : Int) (x3 : Int) (x4 : List (Int)) : St := ⟨[.bad, .f 76 [.q false [.clo 72 [.ptr [.l c3]]] x0], .bad, .bad, .bad, .o 160, .bad, .bad, .bad, .d false c176 x1, .v (.int .i64 x2), .v (.int .i64 x3), .bad, .bad, .bad, .bad, .bad, .bad, .bad, .bad, .bad, .bad, .bad, .bad, .bad], [(160, .sl true 3 c3 x4)]⟩
def X75_3_0 (x0 : List (Int)) : St := ⟨[.bad, .bad, .bad, .bad, .bad, .o 160, .bad, .bad, .bad, .bad, .bad, .bad, .bad, .bad, .bad, .bad, .bad, .bad, .bad, .bad, .bad, .bad, .bad, .bad, .bad], [(160, .sl true 3 c3 x0)]⟩
theorem en75 (n : Nat) (a0 : Int × (List (Int × Int × Int))) (a1 : List (Int)) : runF tab ft75 hint75 ord75 Tryz.f75 [(true, [.i .i64, .l c176]), (false, [.clo 76 [.ptr [.clo 72 [.ptr [.l c3]]]]])] [(false, [.l c3])] true n (a0, a1) =
  (loopK (codeK tab ft75 hint75 ord75 b75_rrlrll n) (hint75 3) n (S75_3 a1 a0.2 (a0.2.length : Int) 0 ([])) (Ex.block 0 (sK tab ft75 hint75 ord75 n b75_rrr (retK tab Tryz.f75 true [(false, [.l c3])]))) : Option (List (Int))) := by kernel_rfl
theorem st75_3 {R : Type} (n m : Nat) (K : Ex → St → Option R) (x0 : List (Int)) (x1 : List (Int × Int × Int)) (x2 : Int) (x3 : Int) (x4 : List (Int)) : loopK (codeK tab ft75 hint75 ord75 b75_rrlrll n) (hint75 3) (m + 1) (S75_3 x0 x1 x2 x3 x4) K =
  bif (decide (x3 < x2)) then
  (bif decide (0 ≤ x3) && decide (x3 < (x1.length : Int)) then
    (bif (!(keepH x0 (x1.getD x3.toNat d176))) then
      (bif le47 (((x4.length : Int) + (([x3]).length : Int)) * (8 : Nat)) && le63 ((x4.length : Int) + (([x3]).length : Int)) then
        (loopK (codeK tab ft75 hint75 ord75 b75_rrlrll n) (hint75 3) m (S75_3 x0 x1 x2 (IntKind.wrap .i64 (x3 + 1)) (x4 ++ [x3])) K)
        else (none))
      else (loopK (codeK tab ft75 hint75 ord75 b75_rrlrll n) (hint75 3) m (S75_3 x0 x1 x2 (IntKind.wrap .i64 (x3 + 1)) x4) K))
    else (none))
  else (K (.exit 0) (X75_3_0 x4)) := by kernel_rfl
theorem ex75_3_0 (n : Nat) (x0 : List (Int)) : (Ex.block 0 (sK tab ft75 hint75 ord75 n b75_rrr (retK tab Tryz.f75 true [(false, [.l c3])]))) (.exit 0) (X75_3_0 x0) =
  (some x0 : Option (List (Int))) := by kernel_rfl
abbrev ET75_3 : Type := (List (Int))
def L75_3 (n : Nat) : Nat → (List (Int)) → (List (Int × Int × Int)) → (Int) → (Int) → (List (Int)) → Option ET75_3
  | 0, _, _, _, _, _ => none
  | m + 1, x0, x1, x2, x3, x4 =>
  bif (decide (x3 < x2)) then
  (bif decide (0 ≤ x3) && decide (x3 < (x1.length : Int)) then
    (bif (!(keepH x0 (x1.getD x3.toNat d176))) then
      (bif le47 (((x4.length : Int) + (([x3]).length : Int)) * (8 : Nat)) && le63 ((x4.length : Int) + (([x3]).length : Int)) then
        (L75_3 n m x0 x1 x2 (IntKind.wrap .i64 (x3 + 1)) (x4 ++ [x3]))
        else (none))
      else (L75_3 n m x0 x1 x2 (IntKind.wrap .i64 (x3 + 1)) x4))
    else (none))
  else (some (x4))
def DK75_3 {R : Type} (K : Ex → St → Option R) : ET75_3 → Option R := fun z => K (.exit 0) (X75_3_0 z)
theorem lp75_3 {R : Type} (n : Nat) : ∀ (m : Nat) (x0 : List (Int)) (x1 : List (Int × Int × Int)) (x2 : Int) (x3 : Int) (x4 : List (Int)) (K : Ex → St → Option R), loopK (codeK tab ft75 hint75 ord75 b75_rrlrll n) (hint75 3) m (S75_3 x0 x1 x2 x3 x4) K = (L75_3 n m x0 x1 x2 x3 x4).bind (DK75_3 K)
  | 0, x0, x1, x2, x3, x4, K => rfl
  | m + 1, x0, x1, x2, x3, x4, K => by
    refine (st75_3 n m K x0 x1 x2 x3 x4).trans ?_
    rw [L75_3]
    have IH : ∀ (x0 : List (Int)) (x1 : List (Int × Int × Int)) (x2 : Int) (x3 : Int) (x4 : List (Int)), loopK (codeK tab ft75 hint75 ord75 b75_rrlrll n) (hint75 3) m (S75_3 x0 x1 x2 x3 x4) K = (L75_3 n m x0 x1 x2 x3 x4).bind (DK75_3 K) := fun x0 x1 x2 x3 x4 => lp75_3 n m x0 x1 x2 x3 x4 K
    exact (cond_b (cond_b (cond_b (cond_b (IH x0 x1 x2 (IntKind.wrap .i64 (x3 + 1)) (x4 ++ [x3])) rfl) (IH x0 x1 x2 (IntKind.wrap .i64 (x3 + 1)) x4)) rfl) rfl)
def E75_3_0 (n : Nat) (x0 : List (Int)) : Option (List (Int)) :=
  some x0
def C75_3 (n : Nat) : ET75_3 → Option (List (Int)) := fun z => E75_3_0 n z
theorem exq75_3_0 (n : Nat) (x0 : List (Int)) : (some x0 : Option (List (Int))) = E75_3_0 n x0 := by
  unfold E75_3_0
  exact rfl
theorem cq75_3 (n : Nat) : ∀ e, DK75_3 (Ex.block 0 (sK tab ft75 hint75 ord75 n b75_rrr (retK tab Tryz.f75 true [(false, [.l c3])]))) e = C75_3 n e := fun z => (ex75_3_0 n z).trans (exq75_3_0 n z)
def G75 (n : Nat) (a0 : Int × (List (Int × Int × Int))) (a1 : List (Int)) : Option (List (Int)) :=
  (L75_3 n n a1 a0.2 (a0.2.length : Int) 0 ([])).bind (C75_3 n)
theorem g75 (n : Nat) (a0 : Int × (List (Int × Int × Int))) (a1 : List (Int)) : runF tab ft75 hint75 ord75 Tryz.f75 [(true, [.i .i64, .l c176]), (false, [.clo 76 [.ptr [.clo 72 [.ptr [.l c3]]]]])] [(false, [.l c3])] true n (a0, a1) = G75 n a0 a1 := by
  refine (en75 n a0 a1).trans ?_
  unfold G75
  exact ((lp75_3 n n a1 a0.2 (a0.2.length : Int) 0 ([]) _).trans (bind_c fun e => cq75_3 n e))
def idxE (l : List Int) : Int → List Ed → List Int
  | _, [] => []
  | i, e :: r => bif !(keepH l e) then i :: idxE l (i + 1) r else idxE l (i + 1) r
def pedges (x : Gr × List Int) : Option (List Int) := bif decide (x.1.2.length ≤ 1048576) then some (idxE x.2 0 x.1.2) else none
theorem pedges_some {x : Gr × List Int} {y : List Int} (h : pedges x = some y) : x.1.2.length ≤ 1048576 ∧ y = idxE x.2 0 x.1.2 := by
  unfold pedges at h
  cases hd : decide (x.1.2.length ≤ 1048576) with
  | false => rw [hd] at h; cases h
  | true => rw [hd] at h; exact ⟨of_decide_eq_true hd, (Option.some.inj h).symm⟩
def e75 : FE := ⟨[(true, [.i .i64, .l c176]), (false, [.clo 76 [.ptr [.clo 72 [.ptr [.l c3]]]]])], [(false, [.l c3])], true, false, pedges⟩
theorem edLoop (n : Nat) (s : Int) (xs : List Ed) (l : List Int) (hl : xs.length ≤ 1048576) : ∀ (m i : Nat) (o : List Int), i ≤ xs.length → o.length ≤ i → xs.length - i < m →
    (L75_3 n m l xs (xs.length : Int) (i : Int) o).bind (C75_3 n) = some (o ++ idxE l i (xs.drop i))
  | 0, i, o, _, _, hm => by omega
  | m + 1, i, o, hi, ho, hm => by
    rw [L75_3]
    by_cases hlt : i < xs.length
    · obtain ⟨e1, e2, e3, e4, e5⟩ := at_i d176 hlt (by simp only [maxLen]; omega)
      rw [e1, e2, e3, e4, e5, idxE, ap1 ho (by omega) (by decide)]
      have ih := fun o h => edLoop n s xs l hl m (i + 1) o (by omega) h (by omega)
      cases ek : keepH l xs[i] with
      | true => exact ih o (by omega)
      | false => exact (ih (o ++ [(i : Int)]) (by simp; omega)).trans (by simp)
    · obtain ⟨e1, e2⟩ := out_i hlt
      rw [e1, e2]; simp [idxE, C75_3, E75_3_0]
theorem p75 : ∀ (a0 : Int × (List (Int × Int × Int))) (a1 : List (Int)) y, okP e75.ps (a0, a1) → e75.φ (a0, a1) = some y → ∃ n, G75 n a0 a1 = some y := by
  intro g l y ok h
  obtain ⟨hl, rfl⟩ := pedges_some h
  simp only at hl
  refine ⟨g.2.length + 1, ?_⟩
  have h := edLoop (g.2.length + 1) g.1 g.2 l hl (g.2.length + 1) 0 [] (by omega) (by simp) (by omega)
  rw [List.drop_zero, List.nil_append] at h
  exact h
theorem r75 : ∀ x y, okP e75.ps x → e75.φ x = some y → ∃ n, runF tab ft75 hint75 ord75 Tryz.f75 e75.ps e75.rs e75.fr n x = some y := fun ⟨a0, a1⟩ y ok h =>
  match p75 _ _ y ok h with | ⟨n, hn⟩ => ⟨n, (g75 n _ _).trans hn⟩
theorem s75 : Sat Tryz.prog 75 e75 := sat_of_run Tryz.func75 (c := bodyOf Tryz.f75) (by kernel_rfl) (ne_of_dec (by kernel_rfl)) mixed tab_ok (by kernel_rfl) (ftOf_cons s76 ftOf_nil) (by kernel_rfl) (fun h => (Bool.false_ne_true h).elim) r75
/- 74 loop.example/g00513/impl.RemoveEdges -/
noncomputable def ft74 : Nat → Option FE := ftOf [(107, e107)]
def hint74 : Nat → Hint := fun
  | 3 => ⟨[1, 4, 5, 12, 13, 14], [128, 130, 160, 162], [4, 5], [128, 130, 160, 162], [], []⟩
  | _ => {}
def ord74 : Nat → List Nat := fun _ => []
noncomputable def b74_rrlrll : Code := Code.l (Code.l (Code.r (Code.l (Code.r (Code.r (bodyOf Tryz.f74))))))
noncomputable def b74_rrr : Code := Code.r (Code.r (Code.r (bodyOf Tryz.f74)))
def S74_3 (x0 : List (Int)) (x1 : List (Int × Int × Int)) (x2 : Int) (x3 : Int) (x4 : List (Int × Int × Int)) (x5 : Int) (x6 : List (Int × Int × Int)) (x7 : Int) : St := ⟨[.bad, .d false c3 x0, .bad, .bad, .p 128 0, .p 160 0, .bad, .bad, .bad, .bad, .bad, .bad, .d false c176 x1, .v (.int .i64 x2), .v (.int .i64 x3), .bad, .bad, .bad, .bad, .bad, .bad, .bad, .bad, .bad, .bad, .bad, .bad, .bad, .bad, .bad, .bad], [(130, .sl true 125 c176 x4), (128, .box [.v (.int .i64 x5), .o 130]), (162, .sl true 125 c176 x6), (160, .box [.v (.int .i64 x7), .o 162])]⟩
def X74_3_0 (x0 : List (Int × Int × Int)) (x1 : Int) (x2 : List (Int × Int × Int)) (x3 : Int) : St := ⟨[.bad, .bad, .bad, .bad, .p 128 0, .p 160 0, .bad, .bad, .bad, .bad, .bad, .bad, .bad, .bad, .bad, .bad, .bad, .bad, .bad, .bad, .bad, .bad, .bad, .bad, .bad, .bad, .bad, .bad, .bad, .bad, .bad], [(130, .sl true 125 c176 x0), (128, .box [.v (.int .i64 x1), .o 130]), (162, .sl true 125 c176 x2), (160, .box [.v (.int .i64 x3), .o 162])]⟩
theorem en74 (n : Nat) (a0 : Int × (List (Int × Int × Int))) (a1 : List (Int)) : runF tab ft74 hint74 ord74 Tryz.f74 [(true, [.i .i64, .l c176]), (false, [.l c3])] [(true, [.i .i64, .l c176])] true n (a0, a1) =
  (loopK (codeK tab ft74 hint74 ord74 b74_rrlrll n) (hint74 3) n (S74_3 a1 a0.2 (a0.2.length : Int) 0 ([]) 0 ([]) a0.1) (Ex.block 0 (sK tab ft74 hint74 ord74 n b74_rrr (retK tab Tryz.f74 true [(true, [.i .i64, .l c176])]))) : Option (Int × (List (Int × Int × Int)))) := by kernel_rfl
theorem st74_3 {R : Type} (n m : Nat) (K : Ex → St → Option R) (x0 : List (Int)) (x1 : List (Int × Int × Int)) (x2 : Int) (x3 : Int) (x4 : List (Int × Int × Int)) (x5 : Int) (x6 : List (Int × Int × Int)) (x7 : Int) : loopK (codeK tab ft74 hint74 ord74 b74_rrlrll n) (hint74 3) (m + 1) (S74_3 x0 x1 x2 x3 x4 x5 x6 x7) K =
  bif (decide (x3 < x2)) then
  (bif decide (0 ≤ x3) && decide (x3 < (x1.length : Int)) then
    (bif (!(T107 x0 x3)) then
      (bif le47 (((x6.length : Int) + (([(x1.getD x3.toNat d176)]).length : Int)) * (24 : Nat)) && le63 ((x6.length : Int) + (([(x1.getD x3.toNat d176)]).length : Int)) then
        (loopK (codeK tab ft74 hint74 ord74 b74_rrlrll n) (hint74 3) m (S74_3 x0 x1 x2 (IntKind.wrap .i64 (x3 + 1)) x4 x5 (x6 ++ [(x1.getD x3.toNat d176)]) x7) K)
        else (none))
      else (loopK (codeK tab ft74 hint74 ord74 b74_rrlrll n) (hint74 3) m (S74_3 x0 x1 x2 (IntKind.wrap .i64 (x3 + 1)) x4 x5 x6 x7) K))
    else (none))
  else (K (.exit 0) (X74_3_0 x4 x5 x6 x7)) := by kernel_rfl
theorem ex74_3_0 (n : Nat) (x0 : List (Int × Int × Int)) (x1 : Int) (x2 : List (Int × Int × Int)) (x3 : Int) : (Ex.block 0 (sK tab ft74 hint74 ord74 n b74_rrr (retK tab Tryz.f74 true [(true, [.i .i64, .l c176])]))) (.exit 0) (X74_3_0 x0 x1 x2 x3) =
  (some (x3, x2) : Option (Int × (List (Int × Int × Int)))) := by kernel_rfl
abbrev ET74_3 : Type := ((List (Int × Int × Int)) × Int × (List (Int × Int × Int)) × Int)
def L74_3 (n : Nat) : Nat → (List (Int)) → (List (Int × Int × Int)) → (Int) → (Int) → (List (Int × Int × Int)) → (Int) → (List (Int × Int × Int)) → (Int) → Option ET74_3
  | 0, _, _, _, _, _, _, _, _ => none
  | m + 1, x0, x1, x2, x3, x4, x5, x6, x7 =>
  bif (decide (x3 < x2)) then
  (bif decide (0 ≤ x3) && decide (x3 < (x1.length : Int)) then
    (bif (!(T107 x0 x3)) then
      (bif le47 (((x6.length : Int) + (([(x1.getD x3.toNat d176)]).length : Int)) * (24 : Nat)) && le63 ((x6.length : Int) + (([(x1.getD x3.toNat d176)]).length : Int)) then
        (L74_3 n m x0 x1 x2 (IntKind.wrap .i64 (x3 + 1)) x4 x5 (x6 ++ [(x1.getD x3.toNat d176)]) x7)
        else (none))
      else (L74_3 n m x0 x1 x2 (IntKind.wrap .i64 (x3 + 1)) x4 x5 x6 x7))
    else (none))
  else (some (x4, x5, x6, x7))
def DK74_3 {R : Type} (K : Ex → St → Option R) : ET74_3 → Option R := fun z => K (.exit 0) (X74_3_0 z.1 z.2.1 z.2.2.1 z.2.2.2)
theorem lp74_3 {R : Type} (n : Nat) : ∀ (m : Nat) (x0 : List (Int)) (x1 : List (Int × Int × Int)) (x2 : Int) (x3 : Int) (x4 : List (Int × Int × Int)) (x5 : Int) (x6 : List (Int × Int × Int)) (x7 : Int) (K : Ex → St → Option R), loopK (codeK tab ft74 hint74 ord74 b74_rrlrll n) (hint74 3) m (S74_3 x0 x1 x2 x3 x4 x5 x6 x7) K = (L74_3 n m x0 x1 x2 x3 x4 x5 x6 x7).bind (DK74_3 K)
  | 0, x0, x1, x2, x3, x4, x5, x6, x7, K => rfl
  | m + 1, x0, x1, x2, x3, x4, x5, x6, x7, K => by
    refine (st74_3 n m K x0 x1 x2 x3 x4 x5 x6 x7).trans ?_
    rw [L74_3]
    have IH : ∀ (x0 : List (Int)) (x1 : List (Int × Int × Int)) (x2 : Int) (x3 : Int) (x4 : List (Int × Int × Int)) (x5 : Int) (x6 : List (Int × Int × Int)) (x7 : Int), loopK (codeK tab ft74 hint74 ord74 b74_rrlrll n) (hint74 3) m (S74_3 x0 x1 x2 x3 x4 x5 x6 x7) K = (L74_3 n m x0 x1 x2 x3 x4 x5 x6 x7).bind (DK74_3 K) := fun x0 x1 x2 x3 x4 x5 x6 x7 => lp74_3 n m x0 x1 x2 x3 x4 x5 x6 x7 K
    exact (cond_b (cond_b (cond_b (cond_b (IH x0 x1 x2 (IntKind.wrap .i64 (x3 + 1)) x4 x5 (x6 ++ [(x1.getD x3.toNat d176)]) x7) rfl) (IH x0 x1 x2 (IntKind.wrap .i64 (x3 + 1)) x4 x5 x6 x7)) rfl) rfl)
def E74_3_0 (n : Nat) (x0 : List (Int × Int × Int)) (x1 : Int) (x2 : List (Int × Int × Int)) (x3 : Int) : Option (Int × (List (Int × Int × Int))) :=
  some (x3, x2)
def C74_3 (n : Nat) : ET74_3 → Option (Int × (List (Int × Int × Int))) := fun z => E74_3_0 n z.1 z.2.1 z.2.2.1 z.2.2.2
theorem exq74_3_0 (n : Nat) (x0 : List (Int × Int × Int)) (x1 : Int) (x2 : List (Int × Int × Int)) (x3 : Int) : (some (x3, x2) : Option (Int × (List (Int × Int × Int)))) = E74_3_0 n x0 x1 x2 x3 := by
  unfold E74_3_0
  exact rfl
theorem cq74_3 (n : Nat) : ∀ e, DK74_3 (Ex.block 0 (sK tab ft74 hint74 ord74 n b74_rrr (retK tab Tryz.f74 true [(true, [.i .i64, .l c176])]))) e = C74_3 n e := fun z => (ex74_3_0 n z.1 z.2.1 z.2.2.1 z.2.2.2).trans (exq74_3_0 n z.1 z.2.1 z.2.2.1 z.2.2.2)
def G74 (n : Nat) (a0 : Int × (List (Int × Int × Int))) (a1 : List (Int)) : Option (Int × (List (Int × Int × Int))) :=
  (L74_3 n n a1 a0.2 (a0.2.length : Int) 0 ([]) 0 ([]) a0.1).bind (C74_3 n)
theorem g74 (n : Nat) (a0 : Int × (List (Int × Int × Int))) (a1 : List (Int)) : runF tab ft74 hint74 ord74 Tryz.f74 [(true, [.i .i64, .l c176]), (false, [.l c3])] [(true, [.i .i64, .l c176])] true n (a0, a1) = G74 n a0 a1 := by
  refine (en74 n a0 a1).trans ?_
  unfold G74
  exact ((lp74_3 n n a1 a0.2 (a0.2.length : Int) 0 ([]) 0 ([]) a0.1 _).trans (bind_c fun e => cq74_3 n e))
def rmv (is : List Int) : Int → List Ed → List Ed
  | _, [] => []
  | i, e :: r => bif !(T107 is i) then e :: rmv is (i + 1) r else rmv is (i + 1) r
def prmv (x : Gr × List Int) : Option Gr := bif decide (x.1.2.length ≤ 1048576) then some (x.1.1, rmv x.2 0 x.1.2) else none
theorem prmv_some {x : Gr × List Int} {y : Gr} (h : prmv x = some y) : x.1.2.length ≤ 1048576 ∧ y = (x.1.1, rmv x.2 0 x.1.2) := by
  unfold prmv at h
  cases hd : decide (x.1.2.length ≤ 1048576) with
  | false => rw [hd] at h; cases h
  | true => rw [hd] at h; exact ⟨of_decide_eq_true hd, (Option.some.inj h).symm⟩
def e74 : FE := ⟨[(true, [.i .i64, .l c176]), (false, [.l c3])], [(true, [.i .i64, .l c176])], true, false, prmv⟩
theorem rmvLoop (n : Nat) (xs : List Ed) (l : List Int) (s : Int) (hl : xs.length ≤ 1048576) : ∀ (m i : Nat) (o : List Ed), i ≤ xs.length → o.length ≤ i → xs.length - i < m →
    (L74_3 n m l xs (xs.length : Int) (i : Int) [] 0 o s).bind (C74_3 n) = some (s, o ++ rmv l i (xs.drop i))
  | 0, i, o, _, _, hm => by omega
  | m + 1, i, o, hi, ho, hm => by
    rw [L74_3]
    by_cases hlt : i < xs.length
    · obtain ⟨e1, e2, e3, e4, e5⟩ := at_i d176 hlt (by simp only [maxLen]; omega)
      rw [e1, e2, e3, e4, e5, rmv, ap1 ho (by omega) (by decide)]
      have ih := fun o h => rmvLoop n xs l s hl m (i + 1) o (by omega) h (by omega)
      cases ek : T107 l (i : Int) with
      | true => exact ih o (by omega)
      | false => exact (ih (o ++ [xs[i]]) (by simp; omega)).trans (by simp)
    · obtain ⟨e1, e2⟩ := out_i hlt
      rw [e1, e2]; simp [rmv, C74_3, E74_3_0]
theorem p74 : ∀ (a0 : Int × (List (Int × Int × Int))) (a1 : List (Int)) y, okP e74.ps (a0, a1) → e74.φ (a0, a1) = some y → ∃ n, G74 n a0 a1 = some y := by
  intro g l y ok h
  obtain ⟨hl, rfl⟩ := prmv_some h
  simp only at hl
  refine ⟨g.2.length + 1, ?_⟩
  have h := rmvLoop (g.2.length + 1) g.2 l g.1 hl (g.2.length + 1) 0 [] (by omega) (by simp) (by omega)
  rw [List.drop_zero, List.nil_append] at h
  exact h
theorem r74 : ∀ x y, okP e74.ps x → e74.φ x = some y → ∃ n, runF tab ft74 hint74 ord74 Tryz.f74 e74.ps e74.rs e74.fr n x = some y := fun ⟨a0, a1⟩ y ok h =>
  match p74 _ _ y ok h with | ⟨n, hn⟩ => ⟨n, (g74 n _ _).trans hn⟩
theorem s74 : Sat Tryz.prog 74 e74 := sat_of_run Tryz.func74 (c := bodyOf Tryz.f74) (by kernel_rfl) (ne_of_dec (by kernel_rfl)) mixed tab_ok (by kernel_rfl) (ftOf_cons s107 ftOf_nil) (by kernel_rfl) (fun h => (Bool.false_ne_true h).elim) r74
/- 32 loop.example/g00513/impl.WithoutHostile -/
noncomputable def ft32 : Nat → Option FE := ftOf [(72, e72), (74, e74), (75, e75), (76, e76)]
def hint32 : Nat → Hint := fun _ => {}
def ord32 : Nat → List Nat := fun
  | 2 => [0, 1, 2, 3, 4, 5]
  | _ => []
theorem en32 (n : Nat) (a0 : Int × (List (Int × Int × Int))) (a1 : List (Int)) : runF tab ft32 hint32 ord32 Tryz.f32 [(true, [.i .i64, .l c176]), (false, [.l c3])] [(true, [.i .i64, .l c176])] true n (a0, a1) =
  ((pedges (a0, a1)).bind fun y1 =>
  (prmv (a0, y1)).bind fun y2 =>
  some y2 : Option (Int × (List (Int × Int × Int)))) := by kernel_rfl
def G32 (n : Nat) (a0 : Int × (List (Int × Int × Int))) (a1 : List (Int)) : Option (Int × (List (Int × Int × Int))) :=
  (pedges (a0, a1)).bind fun y3 =>
  (prmv (a0, y3)).bind fun y4 =>
  some y4
theorem g32 (n : Nat) (a0 : Int × (List (Int × Int × Int))) (a1 : List (Int)) : runF tab ft32 hint32 ord32 Tryz.f32 [(true, [.i .i64, .l c176]), (false, [.l c3])] [(true, [.i .i64, .l c176])] true n (a0, a1) = G32 n a0 a1 := by
  refine (en32 n a0 a1).trans ?_
  unfold G32
  exact (bind_c fun y3 => (bind_c fun y4 => rfl))
theorem ixI_mem (v : Int) : ∀ (xs : List Int) (i : Int), 0 ≤ i → (ixI v i xs ≥ 0 ↔ v ∈ xs)
  | [], i, _ => by simp [ixI]
  | x :: r, i, h => by
    have ih := ixI_mem v r (i + 1) (by omega)
    simp only [ixI, List.mem_cons]
    by_cases e : v = x
    · subst e; simp; omega
    · have : (v == x) = false := by simp [e]
      rw [this, cond_false, ih]
      simp [e]
theorem contains_mem (xs : List Int) (v : Int) : T107 xs v = decide (v ∈ xs) := by
  unfold T107
  exact decide_eq_decide.2 (ixI_mem v xs 0 (by omega))
theorem idxE_ge (l : List Int) : ∀ (xs : List Ed) (i j : Int), j ∈ idxE l i xs → i ≤ j
  | [], i, j, h => by simp [idxE] at h
  | e :: r, i, j, h => by
    simp only [idxE] at h
    cases hk : keepH l e with
    | true => rw [hk] at h; have := idxE_ge l r (i + 1) j h; omega
    | false =>
      rw [hk] at h
      rcases List.mem_cons.1 h with h | h
      · omega
      · have := idxE_ge l r (i + 1) j h; omega
theorem rmv_idx (l : List Int) : ∀ (xs : List Ed) (i : Int) (pre : List Int), (∀ j ∈ pre, j < i) → rmv (pre ++ idxE l i xs) i xs = xs.filter (keepH l)
  | [], i, pre, _ => rfl
  | e :: r, i, pre, hp => by
    simp only [rmv, List.filter_cons, contains_mem]
    cases hk : keepH l e with
    | true =>
      have hi : idxE l i (e :: r) = idxE l (i + 1) r := by simp [idxE, hk]
      have hm : ¬ i ∈ pre ++ idxE l i (e :: r) := by
        rw [hi, List.mem_append]
        rintro (h | h)
        · have := hp i h; omega
        · have := idxE_ge l r (i + 1) i h; omega
      rw [decide_eq_false hm, hi, rmv_idx l r (i + 1) pre (fun j h => by have := hp j h; omega)]
      rfl
    | false =>
      have hi : idxE l i (e :: r) = i :: idxE l (i + 1) r := by simp [idxE, hk]
      have hm : i ∈ pre ++ idxE l i (e :: r) := by rw [hi]; simp
      rw [decide_eq_true hm, hi]
      have := rmv_idx l r (i + 1) (pre ++ [i]) (fun j h => by
        rcases List.mem_append.1 h with h | h
        · have := hp j h; omega
        · simp at h; omega)
      rw [List.append_assoc] at this
      exact this
def e32 : FE := ⟨[(true, [.i .i64, .l c176]), (false, [.l c3])], [(true, [.i .i64, .l c176])], true, false, pcut⟩
theorem p32 : ∀ (a0 : Int × (List (Int × Int × Int))) (a1 : List (Int)) y, okP e32.ps (a0, a1) → e32.φ (a0, a1) = some y → ∃ n, G32 n a0 a1 = some y := by
  intro g l y ok h
  obtain ⟨hl, rfl⟩ := pcut_some h
  simp only at hl
  refine ⟨0, ?_⟩
  unfold G32
  have h1 : pedges (g, l) = some (idxE l 0 g.2) := by unfold pedges; rw [decide_eq_true (show (g, l).1.2.length ≤ 1048576 from hl)]; rfl
  have h2 : prmv (g, idxE l 0 g.2) = some (g.1, g.2.filter (keepH l)) := by
    unfold prmv
    rw [decide_eq_true (show (g, idxE l 0 g.2).1.2.length ≤ 1048576 from hl)]
    have := rmv_idx l g.2 0 [] (by simp)
    rw [List.nil_append] at this
    show some (g.1, rmv (idxE l 0 g.2) 0 g.2) = _
    rw [this]
  rw [h1]
  show (prmv (g, idxE l 0 g.2)).bind _ = _
  rw [h2]
  rfl
theorem r32 : ∀ x y, okP e32.ps x → e32.φ x = some y → ∃ n, runF tab ft32 hint32 ord32 Tryz.f32 e32.ps e32.rs e32.fr n x = some y := fun ⟨a0, a1⟩ y ok h =>
  match p32 _ _ y ok h with | ⟨n, hn⟩ => ⟨n, (g32 n _ _).trans hn⟩
theorem s32 : Sat Tryz.prog 32 e32 := sat_of_run Tryz.func32 (c := bodyOf Tryz.f32) (by kernel_rfl) (ne_of_dec (by kernel_rfl)) mixed tab_ok (by kernel_rfl) (ftOf_cons s72 (ftOf_cons s74 (ftOf_cons s75 (ftOf_cons s76 ftOf_nil)))) (by kernel_rfl) (fun h => (Bool.false_ne_true h).elim) r32
end
end Go.Proofs.Ai

set_option linter.unusedVariables false
namespace Go.Proofs.Ai
open Go.RowKit Go.Maps

/-! breadth first search -/
def bI (u : Int) : List Ed → List Int → List Int
  | [], f => f
  | e :: r, f => bI u r (bif e.1 == u && !(decide (e.2.1 ∈ f)) then f ++ [e.2.1] else f)
def bO (es : List Ed) : Nat → List Int → Nat → Option (List Int)
  | 0, _, _ => none
  | m + 1, f, k => match f[k]? with
    | none => some f
    | some u => bO es m (bI u es f) (k + 1)
structure InS (s : Int) (f : List Int) : Prop where
  nd : f.Nodup
  rg : ∀ x ∈ f, 0 ≤ x ∧ x < s
theorem nodup_range : ∀ (n : Nat) (f : List Int), f.Nodup → (∀ x ∈ f, 0 ≤ x ∧ x < (n : Int)) → f.length ≤ n
  | 0, f, _, h => by
    cases f with
    | nil => simp
    | cons x r => have := h x (by simp); omega
  | n + 1, f, hn, h => by
    have h1 := nodup_range n (f.filter (fun x => x != (n : Int))) (hn.filter _) (fun x hx => by
      obtain ⟨a, b⟩ := List.mem_filter.1 hx
      have := h x a
      simp at b
      omega)
    have h2 : f.length ≤ (f.filter (fun x => x != (n : Int))).length + 1 := by
      clear h h1
      induction f with
      | nil => simp
      | cons x r ih =>
        obtain ⟨a, b⟩ := List.nodup_cons.1 hn
        by_cases e : x = (n : Int)
        · subst e
          have hr : r.filter (fun x => x != (n : Int)) = r := by
            rw [List.filter_eq_self]
            intro y hy
            simp
            rintro rfl
            exact a hy
          simp [List.filter_cons, hr]
        · have := ih b
          simp [List.filter_cons, e]
          omega
    omega
theorem InS.len {s : Int} {f : List Int} (h : InS s f) (hs : s ≤ 8) : f.length ≤ 8 := by
  have := nodup_range s.toNat f h.nd (fun x hx => by have := h.rg x hx; omega)
  omega
theorem InS.snoc {s : Int} {f : List Int} (h : InS s f) {x : Int} (hx : ¬ x ∈ f) (h0 : 0 ≤ x) (h1 : x < s) : InS s (f ++ [x]) := by
  refine ⟨?_, fun y hy => ?_⟩
  · rw [List.nodup_append]
    refine ⟨h.nd, by simp, ?_⟩
    rintro a ha b hb rfl
    simp at hb
    subst hb
    exact hx ha
  · rcases List.mem_append.1 hy with hy | hy
    · exact h.rg y hy
    · simp at hy; omega

/-- 'm[k] = v' in a map literal -/
theorem wpList_insert_own {H : Type} {P : Program} (w : World) {ops : Array Oper} {rest : List Oper} {o : Oper} {a : Act} {Q : Exit → Act → World → Prop}
    (hg : o.guard = none) (m x v : Operand) (t : TypeId) (hop : o.op = Op.insert t m x v)
    (k e : TypeId) (K : Keyed P k) (ht : P.underlying t = some (.map k e)) (R : Value → Option (DataW H × List MemPlace)) (b n : Nat) (D : DataW H)
    (hm : a.eval m = .map (some b)) (hown : w.ownsMap P k R b n D) (hn : n < maxLen) (key val : Value) (kl : Lit) (hx : a.eval x = key) (hv : a.eval v = val) (hkey : keyOf P k key = some kl)
    (d : DataW H) (ps : List MemPlace) (hval : R val = some (d, ps))
    (hK : ∀ w', w'.ownsMap P k R b (n + 1) (D.put kl d) → w.grownBy w' (some b) → wpList P ops Q rest (a.put o.dst undef) w') :
    wpList P ops Q (o :: rest) a w := by
  refine wpList_plain hg fun K' hK' => ?_
  obtain ⟨w', hrun, r1, r2⟩ := hown.update K ht hn hkey hval
  unfold Oper.wp
  simp [execOp, hop, hm, hx, hv, hrun, Result.andThen]
  exact hK' _ _ (hK w' r1 r2)

/-- a contract whose result is one bool -/
theorem Sat.bool {P : Program} {f : FuncId} {ps : List (Bool × List CT)} {fr : Bool} {φ : CT.denP ps → Option (CT.denP [(false, [.b])])} (hs : Sat P f ⟨ps, [(false, [.b])], fr, false, φ⟩) {x : CT.denP ps} {y : Bool} (hy : φ x = some y) {w : World} {us : List Value} (ha : ArgsOk w (fun b => b < w.heap.size) ps x us) :
    Calls P f us.toArray w fun e w' => e = .returned (.bool y) ∧ Below w.heap.size w w' := by
  have := hs.2 x y hy w (fun b => b < w.heap.size) us (fun b h => h) (fun h => by cases h) ha
  refine this.mono ?_
  rintro e w' ⟨v, rfl, hm, hres⟩
  refine ⟨?_, Moved.below hm⟩
  obtain ⟨vs, h1, rfl⟩ := hres
  obtain ⟨u, r, rfl, h2, h3⟩ := h1
  have h3' : r = [] := h3
  subst h3'
  obtain ⟨u', r', h4, h5, h6⟩ := h2
  have h6' : r' = [] := h6
  subst h6'
  have h7 : u' = .bool y := h5
  subst h7
  cases h4
  rfl
theorem Rep_below {w w' : World} {c : CT} {x : c.den} {u : Value} (h : Rep w (fun b => b < w.heap.size) c x u) (hb : Below w.heap.size w w') : Rep w' (fun b => b < w'.heap.size) c x u :=
  Rep.mono (fun b h => Nat.lt_of_lt_of_le h hb.size) (fun b h => hb.block b h) c x u h
theorem edges_of {es : List Ed} {sl : Value} {w : World} (hr : Rep w (fun b => b < w.heap.size) (.l c176) es sl) :
    ∃ ea cap, sl = .slice ea es.length cap ∧ es.length ≤ cap ∧ cap ≤ maxLen ∧ (es ≠ [] → ∃ b off, ea = some ⟨b, off, none⟩ ∧ b < w.heap.size ∧ ∀ i e, es[i]? = some e →
      w.cell? ⟨b, off + i * 3, none⟩ = some (.int .i64 e.1) ∧ w.cell? ⟨b, off + i * 3 + 1, none⟩ = some (.int .i64 e.2.1) ∧ w.cell? ⟨b, off + i * 3 + 2, none⟩ = some (.int .i64 e.2.2) ∧ IntOk .i64 e.1 ∧ IntOk .i64 e.2.1) := by
  obtain ⟨ea, cap, rfl, h1, h2, h3, h4⟩ := hr
  refine ⟨ea, cap, rfl, h1, h2, fun hne => ?_⟩
  obtain ⟨b, off, e1, e2, e3⟩ := h4 hne
  refine ⟨b, off, e1, e2, fun i e hi => ?_⟩
  obtain ⟨⟨u0, k0, j0⟩, ⟨u1, k1, j1⟩, ⟨u2, k2, j2⟩⟩ := e3 i e hi
  obtain ⟨rfl, o0⟩ := j0
  obtain ⟨rfl, o1⟩ := j1
  obtain ⟨rfl, o2⟩ := j2
  exact ⟨k0, k1, k2, o0, o1⟩
theorem start31 {s v : Int} {es : List Ed} {sl : Value} {w : World} (hs : IntOk .i64 s) (hv : IntOk .i64 v) (hr : Rep w (fun b => b < w.heap.size) (.l c176) es sl) :
    (∀ w1, Below w.heap.size w w1 → Calls Tryz.prog 68 #[.agg #[.int .i64 s, sl]] w1 fun e w' => e = .returned (.bool (valG (s, es))) ∧ Below w1.heap.size w1 w') ∧
    (∀ w1, Below w.heap.size w w1 → Calls Tryz.prog 69 #[.agg #[.int .i64 s, sl], .int .i64 v] w1 fun e w' => e = .returned (.bool (T69 (s, es) v)) ∧ Below w1.heap.size w1 w') := by
  have hP : ∀ w1, Below w.heap.size w w1 → RepP w1 (fun b => b < w1.heap.size) (true, [.i .i64, .l c176]) ((s, es) : Gr) (.agg #[.int .i64 s, sl]) :=
    fun w1 hb => ⟨[.int .i64 s, sl], rfl, ⟨_, _, rfl, ⟨rfl, hs⟩, ⟨_, _, rfl, Rep_below hr hb, rfl⟩⟩⟩
  exact ⟨fun w1 hb => Sat.bool s68 (x := ((s, es) : Gr)) rfl ⟨_, [], rfl, hP w1 hb, rfl⟩,
    fun w1 hb => Sat.bool s69 (x := (((s, es) : Gr), v)) rfl ⟨_, _, rfl, hP w1 hb, ⟨_, [], rfl, ⟨_, _, rfl, ⟨rfl, hv⟩, rfl⟩, rfl⟩⟩⟩

set_option maxRecDepth 100000 in
theorem w31_bad (s v : Int) (es : List Ed) (sl : Value) (w : World) (hs : IntOk .i64 s) (hv : IntOk .i64 v) (hr : Rep w (fun b => b < w.heap.size) (.l c176) es sl) (hbad : valG (s, es) = false ∨ T69 (s, es) v = false) :
    Calls Tryz.prog 31 #[.agg #[.int .i64 s, sl], .int .i64 v] w fun e w' => e = .returned (.slice none 0 0) ∧ Below w.heap.size w w' := by
  obtain ⟨c68, c69⟩ := start31 hs hv hr
  obtain ⟨ea, cap, rfl, h1, h2, h4⟩ := edges_of hr
  clear h4 hr
  have hb0 : Below w.heap.size w (w.alloc (.cells #[.int .i64 s, .slice ea es.length cap] 49)) := (Below.refl _ w).alloc (Nat.le_refl _) _
  have c68' := c68 _ hb0
  clear c68
  go_enter Tryz.func31, Tryz.ntmps31
  rcases hg : valG (s, es) with _ | _
  · rw [hg] at c68'
    go_wp2_with (first
      | (go_at_call 68; refine c68'.mono ?_; rintro e w1 ⟨rfl, hb⟩)
      | go_in)
    go_ret
    exact ⟨rfl, hb0.trans (hb.mono (by simp))⟩
  · have hr : T69 (s, es) v = false := by rcases hbad with h | h; rw [hg] at h; cases h; exact h
    rw [hg] at c68'
    go_wp2_with (first
      | (go_at_call 68; refine c68'.mono ?_; rintro e w1 ⟨rfl, hb⟩; have hb1 := hb0.trans (hb.mono (by simp)); have hk : w1.heap[w.heap.size]? = some (.cells #[.int .i64 s, .slice ea es.length cap] 49 (0, 0)) := (hb.block _ (by simp)).trans (heap_alloc_new w _); have hc0 : w1.cell? ⟨w.heap.size, 0, none⟩ = some (.int .i64 s) := cell_at hk 0; have hc1 : w1.cell? ⟨w.heap.size, 1, none⟩ = some (.slice ea es.length cap) := cell_at hk 1)
      | (go_at_call 69; refine (c69 _ hb1).mono ?_; rintro e w2 ⟨rfl, hb2⟩; rw [hr])
      | go_in)
    go_ret
    exact ⟨rfl, hb1.trans (hb2.mono hb1.size)⟩
end Go.Proofs.Ai

set_option linter.unusedVariables false
namespace Go.Proofs.Ai
open Go.RowKit

/-! markIntS writes k, k + 1, .. -/
structure Marked (off : Nat) (k : Int) (cur cur' : Array Value) (j : Nat) : Prop where
  size : cur'.size = cur.size
  inn : ∀ i, i < j → cur'[off + i]? = some (.int .i64 (k + i))
  out : ∀ p, (p < off ∨ off + j ≤ p) → cur'[p]? = cur[p]?
theorem Marked.zero (off : Nat) (k : Int) (cur : Array Value) : Marked off k cur cur 0 := ⟨rfl, fun i h => by omega, fun p _ => rfl⟩
theorem Marked.step {off j : Nat} {k : Int} {cur cur' : Array Value} (h : Marked off k cur cur' j) (hl : off + j < cur.size) : Marked off k cur (cur'.setIfInBounds (off + j) (.int .i64 (k + j))) (j + 1) := by
  refine ⟨by simp [h.size], fun i hi => ?_, fun p hp => ?_⟩
  · rw [Array.getElem?_setIfInBounds]
    by_cases e : i = j
    · subst e
      rw [if_pos rfl, if_pos (by rw [h.size]; exact hl)]
    · rw [if_neg (by omega)]
      exact h.inn i (by omega)
  · rw [Array.getElem?_setIfInBounds, if_neg (by omega)]
    exact h.out p (by omega)

set_option maxHeartbeats 4000000 in
set_option maxRecDepth 100000 in
theorem w11 (b off n cap : Nat) (k : Int) (w : World) (cur : Array Value) (T : TypeId) (hcur : w.heap[b]? = some (.cells cur T (0, 0))) (hint : ∀ i, i < n → ∃ x, cur[off + i]? = some (.int .i64 x)) (hn : n ≤ maxLen) (h0 : 0 ≤ k) (h1 : k + (n : Int) ≤ 4611686018427387904) :
    Calls Tryz.prog 11 #[.slice (some ⟨b, off, none⟩) n cap, .int .i64 k] w fun e w' => e = .returned (.int .i64 (k + n)) ∧ w.grownBy w' (some b) ∧ ∃ cur', w'.heap[b]? = some (.cells cur' T (0, 0)) ∧ Marked off k cur cur' n := by
  simp only [maxLen] at hn
  go_enter Tryz.func11, Tryz.ntmps11
  go_wp2
  go_loopg [1, 5] (n + 1) (fun gk v1 v5 wr => ∃ (j : Nat) (cur' : Array Value), gk + j = n + 1 ∧ j ≤ n ∧ v1 = .int .i64 (k + j) ∧ v5 = .int .i64 j ∧ wr.heap[b]? = some (.cells cur' T (0, 0)) ∧ Marked off k cur cur' j ∧ w.grownBy wr (some b))
  case atStart => exact ⟨0, cur, rfl, Nat.zero_le _, by simp, rfl, hcur, Marked.zero _ _ _, ⟨rfl, rfl, rfl, Nat.le_refl _, fun _ _ _ => rfl⟩⟩
  case round =>
    obtain ⟨j, cur', hgj, hj, rfl, rfl, hb, hm, hg⟩ := hrel
    cases gk with
    | zero => omega
    | succ gj =>
      by_cases hjn : j < n
      · obtain ⟨x, hx⟩ := hint j hjn
        have hsz : off + j < cur.size := (Array.getElem?_eq_some_iff.1 hx).1
        have hcx : wr.cell? ⟨b, off + j, none⟩ = some (.int .i64 x) := by
          rw [cell_at hb, hm.out (off + j) (.inr (Nat.le_refl _))]
          exact hx
        have hfz : wr.frozen? ⟨b, off + j, none⟩ = false := by simp [World.frozen?, hb]
        have hstep := hm.step hsz
        have hb' : (wr.setCell ⟨b, off + j, none⟩ (.int .i64 (k + j))).heap[b]? = some (.cells (cur'.setIfInBounds (off + j) (.int .i64 (k + j))) T (0, 0)) := heap_setCell_at hb
        have hg' : w.grownBy (wr.setCell ⟨b, off + j, none⟩ (.int .i64 (k + j))) (some b) :=
          ⟨hg.os, hg.tape, hg.output, by simpa [World.setCell] using hg.size, fun q hq hne => (Below.heap_setCell _ _ _ _ (fun e => hne (by rw [e]))).trans (hg.block q hq hne)⟩
        clear hx hm hb hg
        go_wp2
        go_roundg gj
        case rel => exact ⟨j + 1, _, by omega, by omega, by go_num, by go_num, hb', hstep, hg'⟩
        case measure => omega
      · obtain rfl : j = n := by omega
        go_wp2
        go_ret
        exact ⟨rfl, hg, cur', hb, hm⟩
end Go.Proofs.Ai

set_option linter.unusedVariables false
namespace Go.Proofs.Ai
open Go.RowKit Go.Maps

theorem QOwn.one {w : World} {base : Nat} (hb : base ≤ w.heap.size) (x : Int) : QOwn (w.alloc (.cells #[.int .i64 x] 3)) base (.slice (some ⟨w.heap.size, 0, none⟩) 1 1) [x] := by
  refine ⟨w.heap.size, 0, 1, #[.int .i64 x], rfl, hb, heap_alloc_new w _, by simp, by simp [maxLen], by simp, fun i y hi => ?_⟩
  cases i with
  | zero => simp at hi; subst hi; rfl
  | succ i => simp at hi

theorem MapOf.size {w : World} {b : Nat} {f : List Int} (h : MapOf w b f) : Maps.size (Dm f) ≤ f.length := by
  obtain ⟨es, clock, hb, F, hs, hD⟩ := h
  rw [hD, Maps.size_eq, length_sorted, List.length_map, Array.length_toList]
  exact hs
theorem wpList_append_run {P : Program} {w : World} {ops : Array Oper} {rest : List Oper} {o : Oper} {a : Act} {Q : Exit → Act → World → Prop} (hgd : o.guard = none) (s x : Operand) (t : TypeId)
    (ho : o.op = .call { callee := .builtin .append, args := #[s, x], argTypes := #[t, t] }) {v0 v1 v9 : Value} {w9 : World} (hs : a.eval s = v0) (hx : a.eval x = v1)
    (hr : (Builtin.append_ #[t, t] o.type #[v0, v1]).run P w = .ok v9 w9) (h : wpList P ops Q rest (a.put o.dst v9) w9) : wpList P ops Q (o :: rest) a w := by
  refine wpList_plain hgd fun K' hK' => ?_
  unfold Oper.wp execOp
  simp only [ho, resolve, invoke, builtin, Sem.run_bind, Sem.run_pure, Result.andThen_ok, List.map_toArray, List.map_cons, List.map_nil, hs, hx, hr]
  exact hK' _ _ h
theorem step31 {w W0 w4 : World} {e : Ed} {f' : List Int} {k g7 off7 n7 cap7 mb p : Nat} {bx : Array Value} (hq1 : QOwn W0 w.heap.size (.slice (some ⟨g7, off7, none⟩) n7 cap7) (f'.drop k)) (hmap1 : MapOf W0 mb f') (hB1 : Below w.heap.size w W0) (hmbw : w.heap.size ≤ mb)
    (hbox1 : W0.heap[w.heap.size]? = some (.cells bx 49 (0, 0))) (hk8 : W0.heap[p]? = some (.cells #[.int .i64 e.1, .int .i64 e.2.1, .int .i64 e.2.2] 125 (0, 0)))
    (hown4 : w4.ownsMap Tryz.prog 3 (plainElem (H := Unit) Tryz.prog 4) mb (f'.length + 1) ((Dm f').put (.int .i64 e.2.1) (.lit (.bool true)))) (hgrow4 : W0.grownBy w4 (some mb)) (hfl : f'.length ≤ 8) :
    w4.cell? ⟨p, 1, none⟩ = some (.int .i64 e.2.1) ∧ ∃ v9 w9, (Builtin.append_ #[36, 36] 36 #[.slice (some ⟨g7, off7, none⟩) n7 cap7, .slice (some ⟨w4.heap.size, 0, none⟩) 1 1]).run Tryz.prog (w4.alloc (.cells #[.int .i64 e.2.1] 3)) = .ok v9 w9 ∧
      QOwn w9 w.heap.size v9 (f'.drop k ++ [e.2.1]) ∧ MapOf w9 mb (f' ++ [e.2.1]) ∧ w9.heap[w.heap.size]? = some (.cells bx 49 (0, 0)) ∧ Below w.heap.size w w9 := by
  have hmb : ∃ es cl, W0.heap[mb]? = some (.map es cl) := by
    obtain ⟨es', cl, hb', _⟩ := hmap1
    exact ⟨es', cl, hb'⟩
  have hmne : ∀ (g : Nat) c T fz, W0.heap[g]? = some (.cells c T fz) → some g ≠ some mb := by
    intro g c T fz h e
    cases e
    obtain ⟨es', cl, hb'⟩ := hmb
    rw [hb'] at h
    cases h
  have hk9 : w4.heap[p]? = some (.cells #[.int .i64 e.1, .int .i64 e.2.1, .int .i64 e.2.2] 125 (0, 0)) := (hgrow4.block _ (Array.getElem?_eq_some_iff.1 hk8).1 (hmne _ _ _ _ hk8)).trans hk8
  have hq4 : QOwn w4 w.heap.size (.slice (some ⟨g7, off7, none⟩) n7 cap7) (f'.drop k) := hq1.kept (B := 0) (o := .map #[] 0) hgrow4 (fun g hg c hc => hmne g _ _ _ hc (by rw [hg]))
  have hbox4 : w4.heap[w.heap.size]? = some (.cells bx 49 (0, 0)) := (hgrow4.block _ (Array.getElem?_eq_some_iff.1 hbox1).1 (hmne _ _ _ _ hbox1)).trans hbox1
  have hB4 : Below w.heap.size w w4 := hB1.grown hgrow4 hB1.size (fun k hk => by cases hk; exact hmbw)
  have hmap4 : MapOf w4 mb (f' ++ [e.2.1]) := by
    unfold MapOf
    rw [Dm_snoc, List.length_append]
    exact hown4
  have hq5 : QOwn (w4.alloc (.cells #[.int .i64 e.2.1] 3)) w.heap.size (.slice (some ⟨g7, off7, none⟩) n7 cap7) (f'.drop k) := hq4.kept (B := 0) (o := .map #[] 0) (World.grownBy_alloc w4 _ none) (fun _ h => by cases h)
  have hB5 : Below w.heap.size w (w4.alloc (.cells #[.int .i64 e.2.1] 3)) := hB4.alloc hB4.size _
  obtain ⟨v9, w9, hrun9, hq9, hg9⟩ := hq5.append hB5.size (x := e.2.1) (nb := w4.heap.size) (no := 0) (cell_at (heap_alloc_new w4 _) 0) (by simp; omega)
  have hown : (Value.slice (some ⟨g7, off7, none⟩) n7 cap7).ownBlock = some g7 := rfl
  rw [hown] at hg9
  obtain ⟨g', off', cap', cur', e', hbg, hg', _⟩ := hq5
  simp only [Value.slice.injEq, Option.some.injEq, Addr.mk.injEq, and_true] at e'
  obtain ⟨⟨rfl, rfl⟩, _⟩ := e'
  have hmb4 : ∃ es cl, w4.heap[mb]? = some (.map es cl) := by
    obtain ⟨es', cl, hb', _⟩ := hmap4
    exact ⟨es', cl, hb'⟩
  refine ⟨cell_at hk9 1, v9, w9, hrun9, hq9, (hmap4.alloc _).kept hg9 (fun h => ?_), ?_, hB5.grown hg9 hB5.size (fun k hk => by cases hk; exact hbg)⟩
  · cases h
    obtain ⟨es', cl, hb'⟩ := hmb4
    rw [heap_alloc_old _ _ (Array.getElem?_eq_some_iff.1 hb').1, hb'] at hg'
    cases hg'
  · rw [hg9.block _ (by have := (Array.getElem?_eq_some_iff.1 hbox4).1; simp; omega) (fun h => ?_), heap_alloc_old _ _ (Array.getElem?_eq_some_iff.1 hbox4).1]
    · exact hbox4
    · cases h
      rw [heap_alloc_old _ _ (Array.getElem?_eq_some_iff.1 hbox4).1, hbox4] at hg'
      cases hg'


set_option maxHeartbeats 4000000 in
set_option maxRecDepth 100000 in
theorem w31_ok (s v : Int) (es : List Ed) (sl : Value) (w : World) (hs : IntOk .i64 s) (hv : IntOk .i64 v) (hr : Rep w (fun b => b < w.heap.size) (.l c176) es sl) (hval : valG (s, es) = true) (hrg : T69 (s, es) v = true)
    {fuel : Nat} {fin : List Int} (hO : bO es fuel [v] 0 = some fin) :
    Calls Tryz.prog 31 #[.agg #[.int .i64 s, sl], .int .i64 v] w fun e w' => ∃ u, e = .returned u ∧ w'.ownsRow w.heap.size 3 1 u fin.length ((fin.mergeSort (fun x y => decide (x ≤ y))).map encZ) ∧ Below w.heap.size w w' := by
  obtain ⟨c68, c69⟩ := start31 hs hv hr
  obtain ⟨ea, cap, rfl, h1, h2, h4⟩ := edges_of hr
  obtain ⟨hs1, hs8, hlen, hall⟩ := valG_spec hval
  simp only at hs1 hs8 hlen hall
  have hv0 : 0 ≤ v ∧ v < s := by
    have : IntKind.wrap .i64 (s - 1) = s - 1 := wrap_id (by omega) (by omega)
    unfold T69 inB at hrg
    simp only [this, Bool.and_eq_true, decide_eq_true_eq] at hrg
    omega
  clear hr
  have hb0 : Below w.heap.size w (w.alloc (.cells #[.int .i64 s, .slice ea es.length cap] 49)) := (Below.refl _ w).alloc (Nat.le_refl _) _
  have c68' := c68 _ hb0
  rw [hval] at c68'
  clear c68 hval
  rw [hrg] at c69
  clear hrg
  have hmm := @run_makeMap Tryz.prog
  go_enter Tryz.func31, Tryz.ntmps31
  go_wp2_with (first
      | (go_at_call 68; refine c68'.mono ?_; rintro e w1 ⟨rfl, hb⟩; have hb1 := hb0.trans (hb.mono (by simp)); have hk : w1.heap[w.heap.size]? = some (.cells #[.int .i64 s, .slice ea es.length cap] 49 (0, 0)) := (hb.block _ (by simp)).trans (heap_alloc_new w _); have hc0 : w1.cell? ⟨w.heap.size, 0, none⟩ = some (.int .i64 s) := cell_at hk 0; have hc1 : w1.cell? ⟨w.heap.size, 1, none⟩ = some (.slice ea es.length cap) := cell_at hk 1)
      | (go_at_call 69; refine (c69 _ hb1).mono ?_; rintro e w2 ⟨rfl, hb2⟩; have hb3 := hb1.trans (hb2.mono hb1.size); have hk2 : w2.heap[w.heap.size]? = some (.cells #[.int .i64 s, .slice ea es.length cap] 49 (0, 0)) := (hb2.block _ (Array.getElem?_eq_some_iff.1 hk).1).trans hk; clear hc0 hc1)
      | (refine wpList_insert_own _ rfl _ _ _ 142 rfl 3 4 key3 Tryz.underlying142 (plainElem (H := Unit) Tryz.prog 4) w2.heap.size 0 (.map []) rfl (World.ownsMap_made _ _ _ _) (by simp [maxLen]) _ _ _ rfl rfl (keyOf_int_mk Tryz.underlying3 hv) _ [] (plainElem_bool Tryz.underlying4 true) ?_; intro w3 hown3 hgrow3)
      | go_in)
  have hB : Below w.heap.size w (w3.alloc (.cells #[.int .i64 v] 3)) := ((hb3.alloc hb3.size _).grown hgrow3 (by simp; exact Nat.le_succ_of_le hb3.size) (fun k hk => by cases hk; exact hb3.size)).alloc (Nat.le_trans (Nat.le_succ_of_le hb3.size) (by have := hgrow3.size; simpa using this)) _
  have hbase3 : w.heap.size ≤ w3.heap.size := Nat.le_trans (Nat.le_succ_of_le hb3.size) (by have := hgrow3.size; simpa using this)
  obtain ⟨mb, hmb⟩ : ∃ mb, mb = w2.heap.size := ⟨_, rfl⟩
  have hmbw : w.heap.size ≤ mb := by rw [hmb]; exact hb3.size
  have hmap : MapOf (w3.alloc (.cells #[.int .i64 v] 3)) mb [v] := by rw [hmb]; exact hown3.alloc _
  have hbox : (w3.alloc (.cells #[.int .i64 v] 3)).heap[w.heap.size]? = some (.cells #[.int .i64 s, .slice ea es.length cap] 49 (0, 0)) := by
    have e1 : w.heap.size < w2.heap.size := (Array.getElem?_eq_some_iff.1 hk2).1
    rw [heap_alloc_old _ _ (by have := hgrow3.size; simp at this; omega), hgrow3.block _ (by simp; omega) (by simp; omega), heap_alloc_old _ _ (by omega)]
    exact hk2
  have hq : QOwn (w3.alloc (.cells #[.int .i64 v] 3)) w.heap.size (.slice (some ⟨w3.heap.size, 0, none⟩) 1 1) [v] := QOwn.one hbase3 v
  have hS : InS s [v] := ⟨by simp, fun x hx => by simp at hx; omega⟩
  rw [← hmb] 
  clear c68' c69 hmm hb hb1 hk hb2 hb3 hk2 hown3 hgrow3 hmb hb0
  go_loopg [6] fuel (fun gk q wr => ∃ (f : List Int) (k : Nat), bO es gk f k = some fin ∧ InS s f ∧ k ≤ f.length ∧ QOwn wr w.heap.size q (f.drop k) ∧ MapOf wr mb f ∧ wr.heap[w.heap.size]? = some (.cells #[.int .i64 s, .slice ea es.length cap] 49 (0, 0)) ∧ Below w.heap.size w wr)
  case atStart => exact ⟨[v], 0, hO, hS, by simp, hq, hmap, hbox, hB⟩
  case round =>
    clear hO hS hq hmap hbox hB hbase3
    obtain ⟨f, k, hO, hS, hk, hq, hmap, hbox, hB⟩ := hrel
    cases gk with
    | zero => simp [bO] at hO
    | succ gk =>
      have hc1 : wr.cell? ⟨w.heap.size, 1, none⟩ = some (.slice ea es.length cap) := cell_at hbox 1
      obtain ⟨g6, off6, cap6, hu6, hg6, hlt6, hcap6, hcm6, ⟨cur6, hh6⟩, hcell6⟩ := hq.cell
      obtain ⟨n6, hn6⟩ : ∃ n6, n6 = (f.drop k).length := ⟨_, rfl⟩
      rw [← hn6] at hu6 hcap6
      subst hu6
      rw [List.length_drop] at hn6
      by_cases hkl : k < f.length
      · have hfk : f[k]? = some f[k] := List.getElem?_eq_getElem hkl
        obtain ⟨u, hu⟩ : ∃ u, u = f[k] := ⟨_, rfl⟩
        rw [← hu] at hfk
        simp only [bO, hfk] at hO
        have hgt : 0 < n6 := by omega
        have hgt' : decide (0 < n6) = true := decide_eq_true hgt
        clear hn6
        go_wp2
        go_loopg [6, 31] (es.length + 1) (fun gj q i wr' => ∃ (f' : List Int) (j : Nat), gj + j = es.length + 1 ∧ j ≤ es.length ∧ i = .int .i64 j ∧ bI u (es.drop j) f' = bI u es f ∧ InS s f' ∧ f'[k]? = some u ∧ QOwn wr' w.heap.size q (f'.drop k) ∧ MapOf wr' mb f' ∧ wr'.heap[w.heap.size]? = some (.cells #[.int .i64 s, .slice ea es.length cap] 49 (0, 0)) ∧ Below w.heap.size w wr')
        case atStart => exact ⟨f, 0, rfl, Nat.zero_le _, rfl, rfl, hS, hfk, hq, hmap, hbox, hB⟩
        case round =>
          clear hS hq hmap hbox hB hcell6 hh6 hcm6 hcap6 hc1 hkl hu hfk
          obtain ⟨f', j, hgj, hj, rfl, hbI, hS, hfk, hq, hmap, hbox, hB⟩ := hrel
          cases gk with
          | zero => omega
          | succ gj =>
            obtain ⟨g7, off7, cap7, hu7, hg7, hlt7, hcap7, hcm7, ⟨cur7, hh7⟩, hcell7⟩ := hq.cell
            obtain ⟨n7, hn7⟩ : ∃ n7, n7 = (f'.drop k).length := ⟨_, rfl⟩
            rw [← hn7] at hu7 hcap7
            subst hu7
            rw [List.length_drop] at hn7
            by_cases hjl : j < es.length
            · have hej : es[j]? = some es[j] := List.getElem?_eq_getElem hjl
              obtain ⟨e, he⟩ : ∃ e, e = es[j] := ⟨_, rfl⟩
              rw [← he] at hej
              have hmem : e ∈ es := by rw [he]; exact List.getElem_mem hjl
              obtain ⟨b, off, rfl, hbw, hcells⟩ := h4 (List.ne_nil_of_mem hmem)
              obtain ⟨x0, x1, x2, o0, o1⟩ := hcells j e hej
              have y0 : wr.cell? ⟨b, off + j * 3, none⟩ = some (.int .i64 e.1) := (hB.cell hbw).trans x0
              have y1 : wr.cell? ⟨b, off + j * 3 + 1, none⟩ = some (.int .i64 e.2.1) := (hB.cell hbw).trans x1
              have y2 : wr.cell? ⟨b, off + j * 3 + 2, none⟩ = some (.int .i64 e.2.2) := (hB.cell hbw).trans x2
              clear x0 x1 x2 hcells h4
              obtain ⟨_, _, ha1⟩ := hall e hmem
              clear hall he
              have hqk : (f'.drop k)[0]? = some u := by rw [List.getElem?_drop, Nat.add_zero]; exact hfk
              have hkl : k < f'.length := (List.getElem?_eq_some_iff.1 hfk).1
              have hq0 : wr.cell? ⟨g7, off7, none⟩ = some (.int .i64 u) := hcell7 0 u hqk
              have hbs : bI u (es.drop j) f' = bI u (es.drop (j + 1)) (bif e.1 == u && !(decide (e.2.1 ∈ f')) then f' ++ [e.2.1] else f') := by
                rw [List.drop_eq_getElem_cons hjl, show es[j] = e from by rw [List.getElem?_eq_getElem hjl] at hej; exact Option.some.inj hej]
                rfl
              rw [hbs] at hbI
              clear hbs
              have hmap1 : MapOf (wr.alloc (.cells #[.int .i64 e.1, .int .i64 e.2.1, .int .i64 e.2.2] 125)) mb f' := hmap.alloc _
              have hq1 : QOwn (wr.alloc (.cells #[.int .i64 e.1, .int .i64 e.2.1, .int .i64 e.2.2] 125)) w.heap.size (.slice (some ⟨g7, off7, none⟩) n7 cap7) (f'.drop k) := hq.kept (B := 0) (o := .map #[] 0) (World.grownBy_alloc wr _ none) (fun _ h => by cases h)
              have hB1 : Below w.heap.size w (wr.alloc (.cells #[.int .i64 e.1, .int .i64 e.2.1, .int .i64 e.2.2] 125)) := hB.alloc hB.size _
              have hbox1 : (wr.alloc (.cells #[.int .i64 e.1, .int .i64 e.2.1, .int .i64 e.2.2] 125)).heap[w.heap.size]? = some (.cells #[.int .i64 s, .slice (some ⟨b, off, none⟩) es.length cap] 49 (0, 0)) := by
                rw [heap_alloc_old _ _ (Array.getElem?_eq_some_iff.1 hbox).1]; exact hbox
              have hk8 : (wr.alloc (.cells #[.int .i64 e.1, .int .i64 e.2.1, .int .i64 e.2.2] 125)).heap[wr.heap.size]? = some (.cells #[.int .i64 e.1, .int .i64 e.2.1, .int .i64 e.2.2] 125 (0, 0)) := heap_alloc_new wr _
              have z7 : (0 : Int) < (n7 : Int) := by omega
              clear hq hmap hbox hB hh7 hcell7 hn7 hcap7
              go_wp2
              generalize hW0 : wr.alloc (.cells #[.int .i64 e.1, .int .i64 e.2.1, .int .i64 e.2.2] 125) = W0 at hmap1 hq1 hB1 hbox1 hk8 ⊢
              have z0 : W0.cell? ⟨wr.heap.size, 0, none⟩ = some (.int .i64 e.1) := cell_at hk8 0
              have z1 : W0.cell? ⟨wr.heap.size, 1, none⟩ = some (.int .i64 e.2.1) := cell_at hk8 1
              have z6 : W0.cell? ⟨g7, off7, none⟩ = some (.int .i64 u) := by rw [← hW0]; exact (Below.cell ((Below.refl wr.heap.size wr).alloc (Nat.le_refl _) _) hlt7).trans hq0
              clear hW0 hq0 y0 y1 y2
              rcases cb : e.1 == u with _ | _
              · rw [cb] at hbI
                have hd : decide (e.1 = u) = false := by simpa using cb
                go_quiet (fail)
                go_wp2
                go_roundg gj
                case rel => exact ⟨f', j + 1, by omega, by omega, by go_num, hbI, hS, hfk, hq1, hmap1, hbox1, ⟨hB1.os, hB1.tape, hB1.output, hB1.size, hB1.block⟩⟩
                case measure => omega
              · have hd : decide (e.1 = u) = true := by simpa using cb
                rcases cc : decide (e.2.1 ∈ f') with _ | _
                · rw [cb, cc] at hbI
                  have hlk : ∀ n, (Instr.lookup 142 (.map (some mb)) (.int .i64 e.2.1) false).run Tryz.prog (W0.drewN n) = .ok (.bool false) (W0.drewN n) := by
                    intro n
                    have := MapOf.look (w := W0.drewN n) hmap1 o1
                    rw [cc] at this
                    exact this
                  go_quiet (fail)
                  clear hlk
                  have hnm : ¬ e.2.1 ∈ f' := of_decide_eq_false cc
                  go_wp2_with (first
                    | (at_mapUpdate; refine wpList_mapUpdate_own _ rfl _ _ _ 142 rfl 3 4 key3 Tryz.underlying142 (plainElem (H := Unit) Tryz.prog 4) mb f'.length (Dm f') rfl hmap1 (by have := hS.len hs8; simp only [maxLen]; omega) _ _ _ rfl rfl (keyOf_int_mk Tryz.underlying3 o1) _ [] (plainElem_bool Tryz.underlying4 true) ?_; intro w4 hown4 hgrow4; obtain ⟨z1', v9, w9, hrun9, hq9, hmap9, hbox9, hB9⟩ := step31 (W0 := W0.drewN nq) hq1 hmap1 ⟨hB1.os, hB1.tape, hB1.output, hB1.size, hB1.block⟩ hmbw hbox1 hk8 hown4 hgrow4 (hS.len hs8))
                    | (at_builtin; refine wpList_append_run rfl _ _ 36 rfl rfl rfl hrun9 ?_)
                    | go_in)
                  go_roundg gj
                  case rel =>
                    have hdk : (f' ++ [e.2.1]).drop k = f'.drop k ++ [e.2.1] := by rw [List.drop_append_of_le_length (by omega)]
                    have hin := hS.snoc hnm ha1.1 ha1.2
                    exact ⟨f' ++ [e.2.1], j + 1, by omega, by omega, by go_num, hbI, hin, by rw [List.getElem?_append_left hkl]; exact hfk, by rw [hdk]; exact hq9, hmap9, hbox9, hB9⟩
                  case measure => omega
                · rw [cb, cc] at hbI
                  have hlk : ∀ n, (Instr.lookup 142 (.map (some mb)) (.int .i64 e.2.1) false).run Tryz.prog (W0.drewN n) = .ok (.bool true) (W0.drewN n) := by
                    intro n
                    have := MapOf.look (w := W0.drewN n) hmap1 o1
                    rw [cc] at this
                    exact this
                  go_quiet (fail)
                  clear hlk
                  go_wp2
                  go_roundg gj
                  case rel => exact ⟨f', j + 1, by omega, by omega, by go_num, hbI, hS, hfk, hq1, hmap1, hbox1, ⟨hB1.os, hB1.tape, hB1.output, hB1.size, hB1.block⟩⟩
                  case measure => omega
            · have hj0 : j = es.length := by omega
              subst hj0
              rw [List.drop_length] at hbI
              have hbI' : f' = bI u es f := hbI
              rw [← hbI'] at hO
              clear hbI hbI'
              have hkl : k < f'.length := (List.getElem?_eq_some_iff.1 hfk).1
              have hdr : f'.drop k = u :: f'.drop (k + 1) := by
                rw [List.drop_eq_getElem_cons hkl]
                rw [List.getElem?_eq_getElem hkl] at hfk
                rw [Option.some.inj hfk]
              have hle : 1 ≤ n7 := by omega
              rw [hdr] at hq
              clear hn7 hcap7
              by_cases hc7 : cap7 = 1
              · have hq' := hq.tail' hc7
                subst hc7
                go_wp2
                go_roundg gk
                case rel => exact ⟨f', k + 1, hO, hS, by omega, hq', hmap, hbox, hB⟩
                case measure => omega
              · have hq' := hq.tail
                go_wp2
                go_roundg gk
                case rel => exact ⟨f', k + 1, hO, hS, by omega, hq', hmap, hbox, hB⟩
                case measure => omega
      · have hk0 : k = f.length := by omega
        have hfk : f[k]? = none := List.getElem?_eq_none (by omega)
        simp only [bO, hfk, Option.some.injEq] at hO
        subst hO
        have hd : n6 = 0 := by omega
        subst hd
        clear hn6
        go_wp2_with (first
          | (go_at_call 71; refine (keys31 (some mb) wr).mono ?_; rintro e w4 ⟨rfl, rfl⟩)
          | (go_at_call 70; refine (sorted31 mb _ _ _ wr hmap (by have := hmap.size; have := hS.len hs8; simp only [maxLen]; omega) (by have := hmap.size; have := hS.len hs8; omega)).mono ?_; rintro e w5 ⟨u, ss, rfl, hperm, hrow, hnil, hb5⟩)
          | go_in)
        go_ret
        have hpf : ss.Perm f := hperm.trans (hmap.perm hS.nd).symm
        rw [mergeSort_of_perm_i hpf, hpf.length_eq] at hrow
        exact ⟨u, rfl, ownsRow_base_a hrow (by simp; exact Nat.le_succ_of_le hB.size), (hB.alloc hB.size _).trans (hb5.mono (by simp; exact Nat.le_succ_of_le hB.size))⟩
end Go.Proofs.Ai
