/- A general part of the proof: the walker by abstract values and its soundness, for every program; no condition. -/
import Derived.WalkKit
set_option linter.unusedVariables false
set_option linter.constructorNameAsVariable false
namespace Go.Proofs.Ai
open Go.RowKit

/-! ### 1. Cell types, deep data, reading -/
inductive CT where
  | i (k : IntKind)
  /-- some integer -/
  | any (k : IntKind)
  /-- something in one cell -/
  | one
  | b
  | s
  | l (cs : List CT)
  /-- a pointer to cells -/
  | ptr (cs : List CT)
  /-- a function and what it captures -/
  | clo (fn : Nat) (cs : List CT)

mutual
def CT.beq : CT → CT → Bool
  | .i k, .i k' => decide (k = k')
  | .any k, .any k' => decide (k = k')
  | .one, .one => true
  | .b, .b => true
  | .s, .s => true
  | .l x, .l y => CT.beqL x y
  | .ptr x, .ptr y => CT.beqL x y
  | .clo k x, .clo k' y => Nat.beq k k' && CT.beqL x y
  | _, _ => false
def CT.beqL : List CT → List CT → Bool
  | [], [] => true
  | x :: xs, y :: ys => CT.beq x y && CT.beqL xs ys
  | _, _ => false
end
mutual
theorem CT.beq_refl : (a : CT) → CT.beq a a = true
  | .i k => by simp [CT.beq]
  | .any k => by simp [CT.beq]
  | .one => by simp [CT.beq]
  | .b => by simp [CT.beq]
  | .s => by simp [CT.beq]
  | .l x => by simp [CT.beq, CT.beqL_refl x]
  | .ptr x => by simp [CT.beq, CT.beqL_refl x]
  | .clo k x => by simp [CT.beq, CT.beqL_refl x]
theorem CT.beqL_refl : (a : List CT) → CT.beqL a a = true
  | [] => by simp [CT.beqL]
  | x :: xs => by simp [CT.beqL, CT.beq_refl x, CT.beqL_refl xs]
end
mutual
theorem CT.eq_of_beq : (a b : CT) → CT.beq a b = true → a = b
  | .i k, w, h => by cases w <;> simp [CT.beq] at h; rw [h]
  | .any k, w, h => by cases w <;> simp [CT.beq] at h; rw [h]
  | .one, w, h => by cases w <;> simp [CT.beq] at h; rfl
  | .b, w, h => by cases w <;> simp [CT.beq] at h; rfl
  | .s, w, h => by cases w <;> simp [CT.beq] at h; rfl
  | .l x, w, h => by
    cases w <;> simp [CT.beq] at h
    rw [CT.eqL_of_beq x _ h]
  | .ptr x, w, h => by
    cases w <;> simp [CT.beq] at h
    rw [CT.eqL_of_beq x _ h]
  | .clo k x, w, h => by
    cases w <;> simp [CT.beq] at h
    rw [h.1, CT.eqL_of_beq x _ h.2]
theorem CT.eqL_of_beq : (a b : List CT) → CT.beqL a b = true → a = b
  | [], w, h => by cases w <;> simp [CT.beqL] at h; rfl
  | x :: xs, w, h => by
    cases w <;> simp [CT.beqL] at h
    rw [CT.eq_of_beq x _ h.1, CT.eqL_of_beq xs _ h.2]
end
instance : DecidableEq CT := fun a b => if h : CT.beq a b = true then isTrue (CT.eq_of_beq a b h) else isFalse (fun e => h (by rw [e]; exact CT.beq_refl b))
instance CT.decL (a b : List CT) : Decidable (a = b) := if h : CT.beqL a b = true then isTrue (CT.eqL_of_beq a b h) else isFalse (fun e => h (by rw [e]; exact CT.beqL_refl b))

mutual
def CT.den : CT → Type
  | .i _ => Int
  | .any _ => Unit
  | .one => Unit
  | .b => Bool
  | .s => ByteArray
  | .l cs => List (CT.denL cs)
  | .ptr cs => CT.denL cs
  | .clo _ cs => CT.denL cs
def CT.denL : List CT → Type
  | [] => Unit
  | [c] => CT.den c
  | c :: d :: cs => CT.den c × CT.denL (d :: cs)
end


mutual
def CT.dflt : (c : CT) → c.den
  | .i _ => (0 : Int)
  | .any _ => ()
  | .one => ()
  | .b => false
  | .s => ByteArray.empty
  | .l _ => []
  | .ptr cs => CT.dfltL cs
  | .clo _ cs => CT.dfltL cs
def CT.dfltL : (cs : List CT) → CT.denL cs
  | [] => ()
  | [c] => CT.dflt c
  | c :: d :: cs => (CT.dflt c, CT.dfltL (d :: cs))
end
instance (c : CT) : Inhabited c.den := ⟨c.dflt⟩
instance (cs : List CT) : Inhabited (CT.denL cs) := ⟨CT.dfltL cs⟩

/-- the first component and the rest -/
def hd : {c : CT} → {cs : List CT} → CT.denL (c :: cs) → c.den
  | _, [], x => x
  | _, _ :: _, x => x.1
def tl : {c : CT} → {cs : List CT} → CT.denL (c :: cs) → CT.denL cs
  | _, [], _ => ()
  | _, _ :: _, x => x.2
def cons : {c : CT} → {cs : List CT} → c.den → CT.denL cs → CT.denL (c :: cs)
  | _, [], x, _ => x
  | _, _ :: _, x, y => (x, y)

theorem hd_cons {c : CT} {cs : List CT} (x : c.den) (y : CT.denL cs) : hd (cons x y) = x := by cases cs <;> rfl
theorem tl_cons {c : CT} {cs : List CT} (x : c.den) (y : CT.denL cs) : tl (cons x y) = y := by cases cs <;> rfl
theorem cons_hd_tl {c : CT} {cs : List CT} (x : CT.denL (c :: cs)) : cons (hd x) (tl x) = x := by cases cs <;> rfl

/-- a slice's elements -/
abbrev els {cs : List CT} (xs : (CT.l cs).den) : List (CT.denL cs) := xs

def IntOk (k : IntKind) (n : Int) : Prop := (Lit.int k n).wf = true

mutual
def Rep (w : World) (F : Nat → Prop) : (c : CT) → c.den → Value → Prop
  | .i k, n, u => u = .int k n ∧ IntOk k n
  | .any k, _, u => ∃ n, u = .int k n ∧ IntOk k n
  | .one, _, u => u.oneCell' = true
  | .ptr cs, x, u => ∃ b off, u = .pointer (some ⟨b, off, none⟩) ∧ F b ∧ RepL w F cs x b off
  | .clo fn cs, x, u => ∃ us : List Value, u = .func (.func fn) #[] us.toArray ∧ RepM w F cs x us
  | .b, x, u => u = .bool x
  | .s, x, u => u = .string x ∧ x.size ≤ maxLen
  | .l cs, xs, u => ∃ a cap, u = .slice a (els xs).length cap ∧ (els xs).length ≤ cap ∧ cap ≤ maxLen ∧ (a = none → cap = 0) ∧
      (els xs ≠ [] → ∃ b off, a = some ⟨b, off, none⟩ ∧ F b ∧ ∀ i y, (els xs)[i]? = some y → RepL w F cs y b (off + i * cs.length))
def RepL (w : World) (F : Nat → Prop) : (cs : List CT) → CT.denL cs → (b off : Nat) → Prop
  | [], _, _, _ => True
  | [c], x, b, o => ∃ u, w.cell? ⟨b, o, none⟩ = some u ∧ Rep w F c x u
  | c :: d :: cs, x, b, o => (∃ u, w.cell? ⟨b, o, none⟩ = some u ∧ Rep w F c x.1 u) ∧ RepL w F (d :: cs) x.2 b (o + 1)
/-- values that stand for typed cells -/
def RepM (w : World) (F : Nat → Prop) : (cs : List CT) → CT.denL cs → List Value → Prop
  | [], _, us => us = []
  | [c], x, us => ∃ u, us = [u] ∧ Rep w F c x u
  | c :: d :: cs, x, us => ∃ u r, us = u :: r ∧ Rep w F c x.1 u ∧ RepM w F (d :: cs) x.2 r
end

theorem RepL_cons {w : World} {F : Nat → Prop} {c : CT} {cs : List CT} {x : CT.denL (c :: cs)} {b o : Nat} :
    RepL w F (c :: cs) x b o ↔ (∃ u, w.cell? ⟨b, o, none⟩ = some u ∧ Rep w F c (hd x) u) ∧ RepL w F cs (tl x) b (o + 1) := by
  cases cs with
  | nil => simp [RepL, hd]
  | cons d cs => simp [RepL, hd, tl]

mutual
theorem Rep.mono {w w' : World} {F F' : Nat → Prop} (hF : ∀ b, F b → F' b) (hk : ∀ b, F b → w'.heap[b]? = w.heap[b]?) : (c : CT) → (x : c.den) → (u : Value) → Rep w F c x u → Rep w' F' c x u
  | .i k, n, u, h => h
  | .any k, n, u, h => h
  | .one, n, u, h => h
  | .ptr cs, x, u, h => by
    unfold Rep at h ⊢
    obtain ⟨b, off, e, hb, hr⟩ := h
    exact ⟨b, off, e, hF b hb, RepL.mono hF hk cs x b off (hk b hb) hr⟩
  | .clo fn cs, x, u, h => by
    unfold Rep at h ⊢
    obtain ⟨us, e, hr⟩ := h
    exact ⟨us, e, RepM.mono hF hk cs x us hr⟩
  | .b, x, u, h => h
  | .s, x, u, h => h
  | .l cs, xs, u, h => by
    unfold Rep at h ⊢
    obtain ⟨a, cap, e, h1, h2, h3, h4⟩ := h
    refine ⟨a, cap, e, h1, h2, h3, fun hne => ?_⟩
    obtain ⟨b, off, ea, hb, h5⟩ := h4 hne
    refine ⟨b, off, ea, hF b hb, fun i y hi => ?_⟩
    exact RepL.mono hF hk cs _ b _ (hk b hb) (h5 i y hi)
theorem RepL.mono {w w' : World} {F F' : Nat → Prop} (hF : ∀ b, F b → F' b) (hk : ∀ b, F b → w'.heap[b]? = w.heap[b]?) : (cs : List CT) → (x : CT.denL cs) → (b o : Nat) → w'.heap[b]? = w.heap[b]? → RepL w F cs x b o → RepL w' F' cs x b o
  | [], _, _, _, _, _ => by unfold RepL; trivial
  | [c], x, b, o, hb, h => by
    unfold RepL at h ⊢
    obtain ⟨u, h1, h2⟩ := h
    exact ⟨u, (World.cell?_of_block (a := ⟨b, o, none⟩) hb).trans h1, Rep.mono hF hk c x u h2⟩
  | c :: d :: cs, x, b, o, hb, h => by
    unfold RepL at h ⊢
    obtain ⟨⟨u, h1, h2⟩, h3⟩ := h
    exact ⟨⟨u, (World.cell?_of_block (a := ⟨b, o, none⟩) hb).trans h1, Rep.mono hF hk c x.1 u h2⟩, RepL.mono hF hk (d :: cs) x.2 b (o + 1) hb h3⟩
theorem RepM.mono {w w' : World} {F F' : Nat → Prop} (hF : ∀ b, F b → F' b) (hk : ∀ b, F b → w'.heap[b]? = w.heap[b]?) : (cs : List CT) → (x : CT.denL cs) → (us : List Value) → RepM w F cs x us → RepM w' F' cs x us
  | [], _, us, h => by unfold RepM at h ⊢; exact h
  | [c], x, us, h => by
    unfold RepM at h ⊢
    obtain ⟨u, e, h⟩ := h
    exact ⟨u, e, Rep.mono hF hk c x u h⟩
  | c :: d :: cs, x, us, h => by
    unfold RepM at h ⊢
    obtain ⟨u, r, e, h1, h2⟩ := h
    exact ⟨u, r, e, Rep.mono hF hk c x.1 u h1, RepM.mono hF hk (d :: cs) x.2 r h2⟩
end

end Go.Proofs.Ai

set_option linter.unusedVariables false
set_option linter.constructorNameAsVariable false
namespace Go.Proofs.Ai
open Go.RowKit
noncomputable section

/-! bounds that the kernel does not compute with -/
theorem le47_ex : ∃ f : Int → Bool, ∀ n, f n = decide (n ≤ 140737488355328) := ⟨_, fun _ => rfl⟩
def le47 : Int → Bool := Classical.choose le47_ex
theorem le47_eq (n : Int) : le47 n = decide (n ≤ 140737488355328) := Classical.choose_spec le47_ex n
theorem le63_ex : ∃ f : Int → Bool, ∀ n, f n = decide (n ≤ 9223372036854775807) := ⟨_, fun _ => rfl⟩
def le63 : Int → Bool := Classical.choose le63_ex
theorem le63_eq (n : Int) : le63 n = decide (n ≤ 9223372036854775807) := Classical.choose_spec le63_ex n
/-! ### 2. Abstract values, blocks, states -/
inductive AV where
  /-- a number, a bool, a string -/
  | v (x : Value)
  /-- some integer -/
  | any (k : IntKind)
  /-- something in one cell -/
  | one
  /-- the nil slice -/
  | z
  /-- a slice that is only read -/
  | d (fr : Bool) (cs : List CT) (xs : List (CT.denL cs))
  /-- a pointer to cells that are only read -/
  | q (fr : Bool) (cs : List CT) (x : CT.denL cs)
  /-- an own slice -/
  | o (k : Nat)
  /-- a pointer into an own variable -/
  | p (k off : Nat)
  /-- a pointer into an own slice's element -/
  | e (k i j : Nat)
  /-- a struct's cells -/
  | g (l : List AV)
  /-- a tuple -/
  | t (l : List AV)
  /-- a function -/
  | f (fn : Nat) (caps : List AV)
  /-- what an operation that was passed over leaves -/
  | u
  /-- just this value, of which one knows more -/
  | pn (v : Value) (a : AV)
  | bad
  deriving Inhabited

inductive AB where
  | box (cells : List AV)
  | sl (fr : Bool) (e : TypeId) (cs : List CT) (xs : List (CT.denL cs))

abbrev Heap := List (Nat × AB)

def hget : Heap → Nat → Option AB
  | [], _ => none
  | (k, b) :: r, n => if k = n then some b else hget r n
def hset : Heap → Nat → AB → Heap
  | [], n, x => [(n, x)]
  | (k, b) :: r, n, x => if k = n then (k, x) :: r else (k, b) :: hset r n x
def hdel : Heap → Nat → Heap
  | [], _ => []
  | (k, b) :: r, n => if k = n then hdel r n else (k, b) :: hdel r n

structure St where
  tmps : List AV
  heap : Heap

/-! types -/
structure CC where
  c : CT
  e : TypeId
inductive TI where
  | sc (c : CT)
  | st (fs : List (Bool × List CC))
  | sl (e : TypeId) (agg : Bool) (cs : List CC) (by_ : Nat)
  | pt
  | no
def TI.cells : TI → Option (Bool × List CC)
  | .sc c => some (false, [⟨c, 0⟩])
  | .st fs => some (true, fs.flatMap (·.2))
  | .sl e _ cs _ => some (false, [⟨.l (cs.map (·.c)), e⟩])
  | _ => none

/-! deep data into abstract values and back -/
def zeroAV : CT → AV
  | .i k => .v (.int k 0)
  | .any k => .v (.int k 0)
  | .one => .one
  | .b => .v (.bool false)
  | .s => .v (.string ByteArray.empty)
  | .l _ => .z
  | .ptr _ => .bad
  | .clo _ _ => .bad
mutual
def cellAV (fr : Bool) : (c : CT) → c.den → AV
  | .i k, n => .v (.int k n)
  | .any k, _ => .any k
  | .one, _ => .one
  | .b, x => .v (.bool x)
  | .s, x => .v (.string x)
  | .l cs, xs => .d fr cs xs
  | .ptr cs, x => .q fr cs x
  | .clo fn cs, x => .f fn (cellsAV fr cs x)
def cellsAV (fr : Bool) : (cs : List CT) → CT.denL cs → List AV
  | [], _ => []
  | [c], x => [cellAV fr c x]
  | c :: d :: cs, x => cellAV fr c x.1 :: cellsAV fr (d :: cs) x.2
end
def toI (k : IntKind) : AV → Option (Bool × Int)
  | .v (.int k' n) => if k = k' then some (true, n) else none
  | _ => none
def toA (k : IntKind) : AV → Option (Bool × Unit)
  | .any k' => if k = k' then some (true, ()) else none
  | _ => none
def toB : AV → Option (Bool × Bool)
  | .v (.bool x) => some (true, x)
  | _ => none
def toS : AV → Option (Bool × ByteArray)
  | .v (.string x) => some (true, x)
  | _ => none
def toL (cs : List CT) : AV → Option (Bool × List (CT.denL cs))
  | .z => some (true, [])
  | .d fr cs' xs => if e : cs' = cs then some (fr, e ▸ xs) else none
  | _ => none
def toP (cs : List CT) : AV → Option (Bool × CT.denL cs)
  | .q fr cs' x => if e : cs' = cs then some (fr, e ▸ x) else none
  | _ => none
def capsOf (fn : Nat) : AV → Option (List AV)
  | .f fn' l => if fn = fn' then some l else none
  | _ => none
def nilO : List AV → Option (Bool × Unit)
  | [] => some (true, ())
  | _ => none
def oneO : List AV → Option AV
  | [a] => some a
  | _ => none
def consO : List AV → Option (AV × List AV)
  | a :: l => some (a, l)
  | [] => none
def pairO {α β : Type} : Option (Bool × α) → Option (Bool × β) → Option (Bool × (α × β))
  | some (f1, x), some (f2, y) => some (f1 && f2, (x, y))
  | _, _ => none
mutual
def toD : (c : CT) → AV → Option (Bool × c.den)
  | .i k, a => toI k a
  | .any k, a => toA k a
  | .one, _ => none
  | .b, a => toB a
  | .s, a => toS a
  | .l cs, a => toL cs a
  | .ptr cs, a => toP cs a
  | .clo fn cs, a => (capsOf fn a).bind fun l => toDs cs l
def toDs : (cs : List CT) → List AV → Option (Bool × CT.denL cs)
  | [], l => nilO l
  | [c], l => (oneO l).bind fun a => toD c a
  | c :: d :: cs, l => (consO l).bind fun p => pairO (toD c p.1) (toDs (d :: cs) p.2)
end
/-- the cells of a value -/
def AV.cells : AV → List AV
  | .g l => l
  | a => [a]

mutual
def AV.names : AV → List Nat
  | .o k => [k]
  | .p k _ => [k]
  | .e k _ _ => [k]
  | .g l => AV.namesL l
  | .t l => AV.namesL l
  | .f _ l => AV.namesL l
  | .pn _ a => AV.names a
  | _ => []
def AV.namesL : List AV → List Nat
  | [] => []
  | a :: l => AV.names a ++ AV.namesL l
end

mutual
/-- names that are not kept are replaced -/
def AV.ren (keep : Nat → Bool) (sub : Nat → AV) : AV → AV
  | .o k => bif keep k then .o k else sub k
  | .p k off => bif keep k then .p k off else .bad
  | .e k i j => bif keep k then .e k i j else .bad
  | .g l => .g (AV.renL keep sub l)
  | .t l => .t (AV.renL keep sub l)
  | .f fn l => .f fn (AV.renL keep sub l)
  | .pn y a => .pn y (AV.ren keep sub a)
  | a => a
def AV.renL (keep : Nat → Bool) (sub : Nat → AV) : List AV → List AV
  | [] => []
  | a :: l => AV.ren keep sub a :: AV.renL keep sub l
end
def AB.ren (keep : Nat → Bool) (sub : Nat → AV) : AB → AB
  | .box cells => .box (AV.renL keep sub cells)
  | x => x
def hren (keep : Nat → Bool) (sub : Nat → AV) : Heap → Heap
  | [] => []
  | (k, b) :: r => (k, b.ren keep sub) :: hren keep sub r
def St.ren (st : St) (keep : Nat → Bool) (sub : Nat → AV) : St := ⟨AV.renL keep sub st.tmps, hren keep sub st.heap⟩
def frozenAV (h : Heap) (k : Nat) : AV := match hget h k with
  | some (.sl fr _ cs xs) => .d fr cs xs
  | _ => .bad
/-- the names are forgotten -/
def St.scrub (st : St) (k : Nat) : St := st.ren (fun n => !(Nat.beq n k)) (fun _ => .bad)
/-- the own slice is only read from now on -/
def St.freeze (st : St) (k : Nat) : St :=
  let s := st.ren (fun n => !(Nat.beq n k)) (fun _ => frozenAV st.heap k)
  ⟨s.tmps, hdel s.heap k⟩
def St.freezeAll (st : St) : List Nat → St
  | [] => st
  | k :: ks => (st.freeze k).freezeAll ks
/-- a new block; what bore the name is forgotten -/
def St.new (st : St) (k : Nat) (b : AB) : St := match hget st.heap k with
  | none => ⟨st.tmps, hset st.heap k b⟩
  | some _ => let s := st.scrub k; ⟨s.tmps, hset s.heap k (b.ren (fun n => !(Nat.beq n k)) (fun _ => .bad))⟩
def St.set (st : St) (t : Option Tmp) (a : AV) : St := match t with
  | some t => ⟨st.tmps.set t a, st.heap⟩
  | none => st

/-! operands -/
def AV.strip : AV → AV
  | .pn _ a => a
  | a => a
def constAV : Value → AV
  | .int k n => bif (Lit.int k n).wf then .v (.int k n) else .bad
  | .bool b => .v (.bool b)
  | .string s => bif decide (s.size ≤ maxLen) then .v (.string s) else .bad
  | .slice none 0 0 => .z
  | _ => .bad
def evalO (st : St) : Operand → AV
  | .tmp t => (st.tmps.getD t .bad).strip
  | .const v => constAV v
  | .global _ => .bad
  | .func f => .f f []

/-! pure operations: a condition and the value -/
def binE (op : BinOp) (x y : AV) : Option (Bool × AV) :=
  match x, y with
  | .v (.int k a), .v (.int k' b) =>
    match op with
    | .shl => some (decide (0 ≤ b), .v (.int k (k.wrap (a * 2 ^ (min b.toNat k.bits)))))
    | .shr => some (decide (0 ≤ b), .v (.int k (a.fdiv (2 ^ (min b.toNat k.bits)))))
    | .add => if k = k' then some (true, .v (.int k (k.wrap (a + b)))) else none
    | .sub => if k = k' then some (true, .v (.int k (k.wrap (a - b)))) else none
    | .mul => if k = k' then some (true, .v (.int k (k.wrap (a * b)))) else none
    | .quo => if k = k' then some (!decide (b = 0), .v (.int k (k.wrap (a.tdiv b)))) else none
    | .rem => if k = k' then some (!decide (b = 0), .v (.int k (a.tmod b))) else none
    | .and => if k = k' then some (true, .v (.int k (k.wrap (BitVec.ofInt k.bits a &&& BitVec.ofInt k.bits b).toNat))) else none
    | .or => if k = k' then some (true, .v (.int k (k.wrap (BitVec.ofInt k.bits a ||| BitVec.ofInt k.bits b).toNat))) else none
    | .xor => if k = k' then some (true, .v (.int k (k.wrap (BitVec.ofInt k.bits a ^^^ BitVec.ofInt k.bits b).toNat))) else none
    | .andNot => if k = k' then some (true, .v (.int k (k.wrap (BitVec.ofInt k.bits a &&& ~~~BitVec.ofInt k.bits b).toNat))) else none
    | .eql => if k = k' then some (true, .v (.bool (a == b))) else none
    | .neq => if k = k' then some (true, .v (.bool (a != b))) else none
    | .lss => if k = k' then some (true, .v (.bool (decide (a < b)))) else none
    | .leq => if k = k' then some (true, .v (.bool (decide (a ≤ b)))) else none
    | .gtr => if k = k' then some (true, .v (.bool (decide (a > b)))) else none
    | .geq => if k = k' then some (true, .v (.bool (decide (a ≥ b)))) else none
  | _, _ => none
def unE (op : UnOp) (x : AV) : Option AV :=
  match op, x with
  | .not, .v (.bool b) => some (.v (.bool (!b)))
  | .neg, .v (.int k n) => some (.v (.int k (k.wrap (0 - n))))
  | _, _ => none
def pickE (c a b : AV) : Option AV :=
  match c with
  | .v (.bool x) => match a, b with
    | .v (.bool p), .v (.bool q) => some (.v (.bool (bif x then p else q)))
    | .v (.int k p), .v (.int k' q) => if k = k' then some (.v (.int k (bif x then p else q))) else some (bif x then a else b)
    | _, _ => some (bif x then a else b)
  | _ => none

/-! memory -/
/-- the rest of typed cells -/
def dropD : (n : Nat) → {cs : List CT} → CT.denL cs → Σ cs' : List CT, CT.denL cs'
  | 0, cs, x => ⟨cs, x⟩
  | _ + 1, [], x => ⟨[], x⟩
  | n + 1, _ :: _, x => dropD n (tl x)
/-- a pointer's cells from here on -/
def atPtr (h : Heap) : AV → Option (List AV)
  | .p k off => match hget h k with
    | some (.box cells) => some (cells.drop off)
    | _ => none
  | .q fr cs x => some (cellsAV fr cs x)
  | .e k i j => match hget h k with
    | some (.sl fr _ cs xs) => some ((cellsAV fr cs (xs.getD i (CT.dfltL cs))).drop j)
    | _ => none
  | _ => none
def loadE (h : Heap) (ti : TI) (a : AV) : Option AV :=
  match ti.cells, atPtr h a with
  | some (true, cs), some l => if cs.length ≤ l.length then some (.g (l.take cs.length)) else none
  | some (false, [_]), some (x :: _) => some x
  | _, _ => none
def fieldOff : List (Bool × List CC) → Nat → Option Nat
  | [], _ => none
  | _ :: _, 0 => some 0
  | f :: fs, n + 1 => (fieldOff fs n).map (f.2.length + ·)
def fieldAddrE (ti : TI) (a : AV) (n : Nat) : Option AV :=
  match ti with
  | .st fs => match fieldOff fs n with
    | some o => match a with
      | .p k off => some (.p k (off + o))
      | .q fr cs x => match dropD o x with | ⟨cs', x'⟩ => some (.q fr cs' x')
      | .e k i j => some (.e k i (j + o))
      | _ => none
    | none => none
  | _ => none
def indexAddrE (h : Heap) (ti : TI) (a i : AV) : Option (Bool × AV) :=
  match ti, i with
  | .sl _ _ ces _, .v (.int _ i) => match a with
    | .d fr cs xs => if cs.length = ces.length then some (decide (0 ≤ i) && decide (i < (xs.length : Int)), .q fr cs (xs.getD i.toNat (CT.dfltL cs))) else none
    | .o k => match hget h k with
      | some (.sl _ _ cs xs) => if cs.length = ces.length then some (decide (0 ≤ i) && decide (i < (xs.length : Int)), .e k i.toNat 0) else none
      | _ => none
    | _ => none
  | _, _ => none
def lenE (h : Heap) : AV → Option Int
  | .v (.string s) => some s.size
  | .z => some 0
  | .d _ _ xs => some xs.length
  | .o k => match hget h k with
    | some (.sl _ _ _ xs) => some xs.length
    | _ => none
  | _ => none


def lenT (ti : TI) (h : Heap) (a : AV) : Option Int :=
  match ti, a with
  | .sc .s, .v (.string s) => some s.size
  | .sl _ _ _ _, .v _ => none
  | .sl _ _ _ _, a => lenE h a
  | _, _ => none

/-! what changes the state -/
def fixZ : Nat → List CC → List AV → List AV × List (Nat × TypeId × List CT)
  | n, ce :: ces, .z :: l => let r := fixZ (n + 1) ces l; (.o n :: r.1, (n, ce.e, match ce.c with | .l cs => cs | _ => []) :: r.2)
  | n, _ :: ces, a :: l => let r := fixZ (n + 1) ces l; (a :: r.1, r.2)
  | _, _, l => (l, [])
def St.empties (st : St) : List (Nat × TypeId × List CT) → St
  | [] => st
  | (n, e, cs) :: r => (st.new n (.sl true e cs [])).empties r
/-- none of the names is borne -/
def disj (l : List AV) (es : List (Nat × TypeId × List CT)) : Bool := (AV.namesL l).all fun n => !(es.any fun x => Nat.beq x.1 n)
/-- one cell can hold it -/
def AV.cell : AV → Bool
  | .v _ => true
  | .any _ => true
  | .one => true
  | .q _ _ _ => true
  | .d _ _ _ => true
  | .o _ => true
  | .p _ _ => true
  | .f _ _ => true
  | _ => false
def putAt (off : Nat) (l cells : List AV) : List AV := cells.take off ++ l ++ cells.drop (off + l.length)
/-- the own slices among values -/
def ownsL : List AV → List Nat
  | .o k :: l => k :: ownsL l
  | _ :: l => ownsL l
  | [] => []
def name (t : Tmp) : Nat := 32 * t
/-- an own variable with these cells -/
def boxE (st : St) (t : Tmp) (ti : TI) (l : List AV) : Option St :=
  match ti.cells with
  | some (_, ces) =>
    let r := fixZ (name t + 1) ces l
    if r.1.all AV.cell = true ∧ ces.length = l.length ∧ disj l r.2 = true then some (((st.empties r.2).new (name t) (.box r.1)).set (some t) (.p (name t) 0)) else none
  | none => none
def storeBox (st : St) (ti : TI) (k off : Nat) (v : AV) : Option St :=
  match ti.cells with
  | some (_, ces) =>
    if ces.length = v.cells.length then
      let r := fixZ (k + 1 + off) ces v.cells
      let s := st.empties r.2
      match hget s.heap k with
      | some (.box cells) => if r.1.all AV.cell = true ∧ off + r.1.length ≤ cells.length ∧ disj v.cells r.2 = true then some ⟨s.tmps, hset s.heap k (.box (putAt off r.1 cells))⟩ else none
      | _ => none
    else none
  | none => none
/-- the value holds no own slices -/
def storeElem (st : St) (ti : TI) (k i j : Nat) (v : AV) : Option St :=
  match ti.cells with
  | some (_, ces) =>
    if ces.length = v.cells.length then
      match hget st.heap k with
      | some (.sl fr e cs xs) =>
        let old := cellsAV fr cs (xs.getD i (CT.dfltL cs))
        if j + v.cells.length ≤ old.length then
          match toDs cs (putAt j v.cells old) with
          | some (fr', y) => some ⟨st.tmps, hset st.heap k (.sl (fr && fr') e cs (xs.set i y))⟩
          | none => none
        else none
      | _ => none
    else none
  | none => none
mutual
/-- no integer of it is known -/
def CT.noI : CT → Bool
  | .i _ => false
  | .l cs => CT.noIL cs
  | .any _ => true
  | .one => true
  | .b => true
  | .s => true
  | .ptr cs => CT.noIL cs
  | .clo _ cs => CT.noIL cs
def CT.noIL : List CT → Bool
  | [] => true
  | c :: cs => CT.noI c && CT.noIL cs
end
mutual
def AV.noI : AV → Bool
  | .d _ cs _ => CT.noIL cs
  | .q _ cs _ => CT.noIL cs
  | .g l => AV.noIL l
  | .t l => AV.noIL l
  | .f _ l => AV.noIL l
  | .pn _ a => AV.noI a
  | _ => true
def AV.noIL : List AV → Bool
  | [] => true
  | a :: l => AV.noI a && AV.noIL l
end
def AB.noI : AB → Bool
  | .box l => AV.noIL l
  | .sl _ _ cs _ => CT.noIL cs
def St.noI (st : St) : Bool := AV.noIL st.tmps && st.heap.all fun p => AB.noI p.2
/-- integers of the arguments' memory may be written -/
def erOf (τ : TypeId → TI) : Bool := match τ 0 with
  | .pt => true
  | _ => false
def storeAny (er : Bool) (st : St) (ti : TI) (cs : List CT) (v : AV) : Option St :=
  match er, ti, cs, v with
  | true, .sc _, .any k :: _, .v (.int k' _) => if k = k' then bif st.noI then some st else none else none
  | true, .sc _, .any k :: _, .any k' => if k = k' then bif st.noI then some st else none else none
  | _, _, _, _ => none
def storeE (er : Bool) (st : St) (ti : TI) (a : AV) (x : Operand) : Option St :=
  match a with
  | .q _ cs _ => storeAny er st ti cs (evalO st x)
  | .p k off => storeBox st ti k off (evalO st x)
  | .e k i j =>
    let ks := ownsL (evalO st x).cells
    if ks.contains k then none else
      let s := st.freezeAll ks
      storeElem s ti k i j (evalO s x)
  | _ => none
def makeE (st : St) (t : Tmp) (ti : TI) (l c : AV) : Option (Bool × St) :=
  match ti, l, c with
  | .sl e _ ces by_, .v (.int _ l), .v (.int _ c) =>
    some (decide (0 ≤ l) && decide (l ≤ c) && le47 (c * by_) && le63 c,
      (st.new (name t) (.sl true e (ces.map (·.c)) (List.replicate l.toNat (CT.dfltL _)))).set (some t) (.o (name t)))
  | _, _, _ => none
def litElems (cs : List CT) : List AV → Option (Bool × List (CT.denL cs))
  | [] => some (true, [])
  | a :: l => match toDs cs a.cells, litElems cs l with
    | some (f, x), some (f', xs) => some (f && f', x :: xs)
    | _, _ => none
def buildSliceE (st : St) (t : Tmp) (ti : TI) (ops : List Operand) : Option St :=
  match ti with
  | .sl e _ ces _ =>
    let s := st.freezeAll (ownsL ((ops.map (evalO st)).flatMap AV.cells))
    match litElems (ces.map (·.c)) (ops.map (evalO s)), Nat.ble (ops.length * ces.length) 16777216 with
    | some (fr, xs), true => some ((s.new (name t) (.sl fr e _ xs)).set (some t) (.o (name t)))
    | _, _ => none
  | _ => none
/-- a struct's part -/
def AV.part : AV → Bool
  | .g _ => true
  | .z => true
  | a => a.cell
def setParts (cells : List AV) (fs : List (Bool × List CC)) : List (Nat × AV) → Option (List AV)
  | [] => some cells
  | (i, a) :: r => match fieldOff fs i, fs[i]? with
    | some o, some f => if a.cells.length = f.2.length ∧ a.part = true then setParts (putAt o a.cells cells) fs r else none
    | _, _ => none
def buildE (ti : TI) (parts : List (Nat × AV)) : Option AV :=
  match ti with
  | .st fs => (setParts ((fs.flatMap (·.2)).map fun ce => zeroAV ce.c) fs parts).map .g
  | _ => none
/-- what is appended: its elements -/
def elemsE (h : Heap) (cs : List CT) : AV → Option (Bool × List (CT.denL cs))
  | .z => some (true, [])
  | .d fr cs' xs => if e : cs' = cs then some (fr, e ▸ xs) else none
  | .o k => match hget h k with
    | some (.sl fr _ cs' xs) => if e : cs' = cs then some (fr, e ▸ xs) else none
    | _ => none
  | _ => none
def appendE (st : St) (t : Tmp) (ti : TI) (a x : AV) : Option (Bool × St) :=
  match ti with
  | .sl e _ ces by_ => match a with
    | .o k => match hget st.heap k with
      | some (.sl fr e' cs xs) => if e' = e ∧ cs.length = ces.length then
          match x with
          | .o m => if m = k then none else match elemsE st.heap cs x with
            | some (fr', ys) =>
              let s := st.scrub k
              some (le47 ((xs.length + ys.length : Int) * by_) && le63 (xs.length + ys.length : Int), (⟨s.tmps, hset s.heap k (.sl (fr && fr') e cs (xs ++ ys))⟩ : St).set (some t) (.o k))
            | none => none
          | _ => match elemsE st.heap cs x with
            | some (fr', ys) =>
              let s := st.scrub k
              some (le47 ((xs.length + ys.length : Int) * by_) && le63 (xs.length + ys.length : Int), (⟨s.tmps, hset s.heap k (.sl (fr && fr') e cs (xs ++ ys))⟩ : St).set (some t) (.o k))
            | none => none
        else none
      | _ => none
    | _ => none
  | _ => none
def sliceGo (t : Tmp) (ti : TI) (lo hi : Option AV) (st : St) (fr : Bool) (cs : List CT) (xs : List (CT.denL cs)) : Option (Bool × St) :=
  match ti with
  | .sl _ _ ces _ => if cs.length = ces.length then
    match lo, hi with
    | none, none => some (true, st.set (some t) (.d fr cs xs))
    | some (.v (.int _ l)), none => some (decide (0 ≤ l) && decide (l ≤ (xs.length : Int)), st.set (some t) (.d fr cs (xs.drop l.toNat)))
    | none, some (.v (.int _ h)) => some (decide (0 ≤ h) && decide (h ≤ (xs.length : Int)), st.set (some t) (.d fr cs (xs.take h.toNat)))
    | some (.v (.int _ l)), some (.v (.int _ h)) => some (decide (0 ≤ l) && decide (l ≤ h) && decide (h ≤ (xs.length : Int)), st.set (some t) (.d fr cs ((xs.take h.toNat).drop l.toNat)))
    | _, _ => none
    else none
  | _ => none
def sliceE (st : St) (t : Tmp) (ti : TI) (x : Operand) (lo hi : Option AV) : Option (Bool × St) :=
  match evalO st x with
  | .d fr cs xs => sliceGo t ti lo hi st fr cs xs
  | .o k => match evalO (st.freeze k) x with
    | .d fr cs xs => sliceGo t ti lo hi (st.freeze k) fr cs xs
    | _ => none
  | _ => none

/-! ### 3. Calls, regions, code -/
def CT.denP : List (Bool × List CT) → Type
  | [] => Unit
  | [p] => CT.denL p.2
  | p :: q :: r => CT.denL p.2 × CT.denP (q :: r)
def consP : {p : Bool × List CT} → {ps : List (Bool × List CT)} → CT.denL p.2 → CT.denP ps → CT.denP (p :: ps)
  | _, [], x, _ => x
  | _, _ :: _, x, y => (x, y)
def hdP : {p : Bool × List CT} → {ps : List (Bool × List CT)} → CT.denP (p :: ps) → CT.denL p.2
  | _, [], x => x
  | _, _ :: _, x => x.1
def tlP : {p : Bool × List CT} → {ps : List (Bool × List CT)} → CT.denP (p :: ps) → CT.denP ps
  | _, [], _ => ()
  | _, _ :: _, x => x.2
/-- what a function's contract says -/
structure FE where
  ps : List (Bool × List CT)
  rs : List (Bool × List CT)
  fr : Bool
  /-- integers of the arguments' memory may be written -/
  er : Bool := false
  φ : CT.denP ps → Option (CT.denP rs)
def marshP : (ps : List (Bool × List CT)) → List AV → Option (Bool × CT.denP ps)
  | [], [] => some (true, ())
  | p :: ps, a :: l => match toDs p.2 a.cells, marshP ps l with
    | some (f, x), some (f', y) => some (f && f', consP x y)
    | _, _ => none
  | _, _ => none
def valAV (fr : Bool) : (p : Bool × List CT) → CT.denL p.2 → AV
  | (true, cs), x => .g (cellsAV fr cs x)
  | (false, [c]), x => cellAV fr c x
  | (false, _), _ => .bad
def valsAV (fr : Bool) : (ps : List (Bool × List CT)) → CT.denP ps → List AV
  | [], _ => []
  | p :: ps, x => valAV fr p (hdP x) :: valsAV fr ps (tlP x)
def resAV (fr : Bool) (rs : List (Bool × List CT)) (y : CT.denP rs) : AV :=
  match valsAV fr rs y with
  | [a] => a
  | l => .t l
def CT.flat : CT → Bool
  | .l _ => false
  | .ptr _ => false
  | .clo _ _ => false
  | _ => true
def flatP (rs : List (Bool × List CT)) : Bool := rs.all fun p => p.2.all CT.flat
/-- a value's struct form fits the parameter's -/
def fitsP : List (Bool × List CT) → List AV → Bool
  | [], [] => true
  | (true, _) :: ps, .g _ :: l => fitsP ps l
  | (true, _) :: _, _ :: _ => false
  | (false, _) :: _, .g _ :: _ => false
  | (false, _) :: ps, _ :: l => fitsP ps l
  | _, _ => false
def callK {R : Type} (er : Bool) (st : St) (dst : Option Tmp) (E : FE) (args : List Operand) (K : St → Option R) : Option R :=
  let ks := ownsL ((args.map (evalO st)).flatMap AV.cells)
  let s := st.freezeAll ks
  let l := args.map (evalO s)
  match fitsP E.ps l, marshP E.ps l with
  | true, some (_, x) => match E.φ x with
    | some y => bif (er && !(flatP E.rs)) || (E.er && !(er && st.noI && ks.isEmpty)) then none else K ((bif E.fr || flatP E.rs then st else s).set dst (resAV E.fr E.rs y))
    | none => none
  | _, _ => none
/-! closures, and pointers to own variables, handed to one that only reads -/
def ownCells (h : Heap) (n : Nat) : AV → Option (List AV)
  | .p k off => match hget h k with
    | some (.box cells) => some ((cells.drop off).take n)
    | _ => none
  | _ => none
def toLo (h : Heap) (cs : List CT) : AV → Option (Bool × List (CT.denL cs))
  | .o k => match hget h k with
    | some (.sl fr _ cs' xs) => if e : cs' = cs then some (false, e ▸ xs) else none
    | _ => none
  | a => toL cs a
mutual
def toH (h : Heap) : (c : CT) → AV → Option (Bool × c.den)
  | .i k, a => toI k a
  | .any k, a => toA k a
  | .one, _ => none
  | .b, a => toB a
  | .s, a => toS a
  | .l cs, a => toLo h cs a
  | .ptr cs, a => match ownCells h cs.length a with
    | some l => toHs h cs l
    | none => toP cs a
  | .clo fn cs, a => (capsOf fn a).bind fun l => toHs h cs l
def toHs (h : Heap) : (cs : List CT) → List AV → Option (Bool × CT.denL cs)
  | [], l => nilO l
  | [c], l => (oneO l).bind fun a => toH h c a
  | c :: d :: cs, l => (consO l).bind fun p => pairO (toH h c p.1) (toHs h (d :: cs) p.2)
end
def marshH (h : Heap) : (ps : List (Bool × List CT)) → List AV → Option (CT.denP ps)
  | [], [] => some ()
  | p :: ps, a :: l => match toHs h p.2 a.cells, marshH h ps l with
    | some (_, x), some y => some (consP x y)
    | _, _ => none
  | _, _ => none
def needC (l : List AV) : Bool := l.any fun a => match a with
  | .p _ _ => true
  | .f _ _ => true
  | _ => false
def callC {R : Type} (er : Bool) (st : St) (dst : Option Tmp) (E : FE) (l : List AV) (K : St → Option R) : Option R :=
  match fitsP E.ps l, marshH st.heap E.ps l with
  | true, some x => match E.φ x with
    | some y => bif er || E.er || !(E.fr || flatP E.rs) then none else K (st.set dst (resAV E.fr E.rs y))
    | none => none
  | _, _ => none
/-- what an operation without a call does -/
def opE (τ : TypeId → TI) (st : St) (o : Oper) : Option (Bool × St) :=
  let ev := evalO st
  let val (a : AV) : Option (Bool × St) := some (true, st.set o.dst a)
  match o.op, o.dst with
  | .move x, some t | .assign x, some t => match ev x with
    | .z => match τ o.type with
      | .sl e _ ces _ => some (true, (st.new (name t) (.sl true e (ces.map (·.c)) [])).set (some t) (.o (name t)))
      | _ => none
    | .bad => none
    | a => val a
  | .pick c a b, some _ => (pickE (ev c) (ev a) (ev b)).bind val
  | .alloc e, some t => match (τ e).cells with
    | some (_, ces) => (boxE st t (τ e) (ces.map fun ce => zeroAV ce.c)).map fun s => (true, s)
    | none => none
  | .box e x, some t => (boxE st t (τ e) (ev x).cells).map fun s => (true, s)
  | .build e parts, some _ => (buildE (τ e) (parts.toList.map fun p => (p.1, ev p.2))).bind val
  | .buildSlice e len parts, some t =>
    if parts.toList.map (·.1) = List.range len then (buildSliceE st t (τ e) (parts.toList.map (·.2))).map fun s => (true, s) else none
  | .load e x, some _ => (loadE st.heap (τ e) (ev x)).bind val
  | .store e a x, none => (storeE (erOf τ) st (τ e) (ev a) x).map fun s => (true, s)
  | .nilCheck x, some _ => match ev x with
    | .p k off => val (.p k off)
    | .q fr cs y => val (.q fr cs y)
    | .e k i j => val (.e k i j)
    | _ => none
  | .binOp op _ x y _, some _ => match binE op (ev x) (ev y) with
    | some (c, a) => some (c, st.set o.dst a)
    | none => none
  | .unOp op _ x, some _ => (unE op (ev x)).bind val
  | .convert s e x, some _ => match τ s, τ e, ev x with
    | .sc _, .sc (.i k), .v (.int _ n) => val (.v (.int k (k.wrap n)))
    | _, _, _ => none
  | .makeSlice e l c, some t => makeE st t (τ e) (ev l) (ev c)
  | .slice e x lo hi none, some t => sliceE st t (τ e) x (lo.map ev) (hi.map ev)
  | .fieldAddr e x i, some _ => (fieldAddrE (τ e) (ev x) i).bind val
  | .indexAddr e x i, some _ => match indexAddrE st.heap (τ e) (ev x) (ev i) with
    | some (c, a) => some (c, st.set o.dst a)
    | none => none
  | .makeFunc (.func fn) first captured, some _ => match first.toList with
    | [] => val (.f fn (captured.toList.map ev))
    | _ => none
  | .extract x i, some _ => match ev x with
    | .t l => (l[i]?).bind val
    | _ => none
  | .call c, some t => match c.callee with
    | .builtin .len => match c.args.toList, c.argTypes.toList with
      | [x], [e] => (lenT (τ e) st.heap (ev x)).bind fun n => val (.v (.int .i64 n))
      | _, _ => none
    | .builtin .append => match c.args.toList, c.argTypes.toList with
      | [a, x], [e, e'] => if e' = e then appendE st t (τ e) (ev a) (ev x) else none
      | _, _ => none
    | .builtin .min => match c.args.toList.map ev with
      | [.v (.int k a), .v (.int k' b)] => if k = k' then val (.v (.int k (bif decide (b < a) then b else a))) else none
      | _ => none
    | .builtin .max => match c.args.toList.map ev with
      | [.v (.int k a), .v (.int k' b)] => if k = k' then val (.v (.int k (bif decide (b > a) then b else a))) else none
      | _ => none
    | _ => none
  | _, _ => none
mutual
/-- a value is laid out before one goes on -/
def forceV {R : Type} : AV → (AV → R) → R
  | .v x, k => k (.v x)
  | .any x, k => k (.any x)
  | .one, k => k .one
  | .z, k => k .z
  | .d fr cs xs, k => k (.d fr cs xs)
  | .q fr cs x, k => k (.q fr cs x)
  | .o n, k => k (.o n)
  | .p n off, k => k (.p n off)
  | .e n i j, k => k (.e n i j)
  | .g l, k => forceVs l (fun l => k (.g l))
  | .t l, k => forceVs l (fun l => k (.t l))
  | .f fn l, k => forceVs l (fun l => k (.f fn l))
  | .u, k => k .u
  | .pn y a, k => forceV a (fun a => k (.pn y a))
  | .bad, k => k .bad
def forceVs {R : Type} : List AV → (List AV → R) → R
  | [], k => k []
  | a :: l, k => forceV a (fun a => forceVs l (fun l => k (a :: l)))
end
mutual
theorem forceV_eq {R : Type} : ∀ (a : AV) (k : AV → R), forceV a k = k a
  | .v _, k => by unfold forceV; rfl
  | .any _, k => by unfold forceV; rfl
  | .one, k => by unfold forceV; rfl
  | .z, k => by unfold forceV; rfl
  | .d _ _ _, k => by unfold forceV; rfl
  | .q _ _ _, k => by unfold forceV; rfl
  | .o _, k => by unfold forceV; rfl
  | .p _ _, k => by unfold forceV; rfl
  | .e _ _ _, k => by unfold forceV; rfl
  | .g l, k => by unfold forceV; rw [forceVs_eq]
  | .t l, k => by unfold forceV; rw [forceVs_eq]
  | .f _ l, k => by unfold forceV; rw [forceVs_eq]
  | .u, k => by unfold forceV; rfl
  | .pn _ a, k => by unfold forceV; rw [forceV_eq]
  | .bad, k => by unfold forceV; rfl
theorem forceVs_eq {R : Type} : ∀ (l : List AV) (k : List AV → R), forceVs l k = k l
  | [], k => by unfold forceVs; rfl
  | a :: l, k => by unfold forceVs; rw [forceV_eq, forceVs_eq]
end
def forceH {R : Type} : Heap → (Heap → R) → R
  | [], k => k []
  | (n, .box l) :: r, k => forceVs l (fun l => forceH r (fun r => k ((n, .box l) :: r)))
  | (n, .sl fr e cs xs) :: r, k => forceH r (fun r => k ((n, .sl fr e cs xs) :: r))
theorem forceH_eq {R : Type} : ∀ (h : Heap) (k : Heap → R), forceH h k = k h
  | [], k => by unfold forceH; rfl
  | (n, .box l) :: r, k => by unfold forceH; rw [forceVs_eq, forceH_eq r]
  | (n, .sl fr e cs xs) :: r, k => by unfold forceH; rw [forceH_eq r]
/-- a state is laid out before one goes on -/
def forceSt {R : Type} (s : St) (k : St → R) : R := forceVs s.tmps (fun t => forceH s.heap (fun h => k ⟨t, h⟩))
theorem forceSt_eq {R : Type} (s : St) (k : St → R) : forceSt s k = k s := by
  unfold forceSt
  rw [forceVs_eq, forceH_eq]
/-- operations that answer no condition -/
def plainO : Op → Bool
  | .move _ => true
  | .assign _ => true
  | .pick _ _ _ => true
  | .alloc _ => true
  | .box _ _ => true
  | .build _ _ => true
  | .buildSlice _ _ _ => true
  | .load _ _ => true
  | .store _ _ _ => true
  | .nilCheck _ => true
  | .unOp _ _ _ => true
  | .convert _ _ _ => true
  | .fieldAddr _ _ _ => true
  | .makeFunc _ _ _ => true
  | .extract _ _ => true
  | .binOp op _ _ _ _ => match op with
    | .shl => false
    | .shr => false
    | .quo => false
    | .rem => false
    | _ => true
  | .call c => match c.callee with
    | .builtin .append => false
    | .builtin _ => true
    | _ => false
  | _ => false
def stepK0 {R : Type} (τ : TypeId → TI) (ft : FuncId → Option FE) (st : St) (o : Oper) (K : St → Option R) : Option R :=
  match o.op with
  | .call { callee := .value (.func f), args, .. } => match ft f with
    | some E => bif needC (args.toList.map (evalO st)) then callC (erOf τ) st o.dst E (args.toList.map (evalO st)) K else callK (erOf τ) st o.dst E args.toList K
    | none => none
  | .call { callee := .value (.tmp t), args, .. } => match st.tmps.getD t .bad with
    | .f g caps => match ft g with
      | some E => callC (erOf τ) st o.dst E (args.toList.map (evalO st) ++ caps) K
      | none => none
    | _ => none
  | _ => match opE τ st o with
    | some (c, s) => match plainO o.op with
      | true => match c with
        | true => K s
        | false => none
      | false => bif c then K s else none
    | none => none
def stepK {R : Type} (τ : TypeId → TI) (ft : FuncId → Option FE) (st : St) (o : Oper) (K : St → Option R) : Option R := stepK0 τ ft st o (fun s => forceSt s K)
theorem stepK_eq {R : Type} (τ : TypeId → TI) (ft : FuncId → Option FE) (st : St) (o : Oper) (K : St → Option R) : stepK τ ft st o K = stepK0 τ ft st o K := by
  unfold stepK
  congr 1
  funext s
  exact forceSt_eq s K
def opsK {R : Type} (τ : TypeId → TI) (ft : FuncId → Option FE) (ops : Array Oper) : List Oper → St → (St → Option R) → Option R
  | [], st, K => K st
  | o :: os, st, K => match o.guard with
    | none => stepK τ ft st o (fun s => opsK τ ft ops os s K)
    | some (j, pol) => match (ops[j]?).bind (·.dst) with
      | some t => match st.tmps.getD t .bad with
        | .v (.bool x) =>
          let yes (b : Bool) : Option R := (fun s => bif Bool.xor b pol then opsK τ ft ops os (s.set o.dst .u) K else stepK τ ft s o (fun s => opsK τ ft ops os s K)) (st.set (some t) (.v (.bool b)))
          bif x then yes true else yes false
        | .u => opsK τ ft ops os (st.set o.dst .u) K
        | _ => none
      | none => none
inductive Ex where
  | normal
  | exit (id : Nat)
  | ret
def Ex.next {R : Type} (k : St → Option R) (K : Ex → St → Option R) : Ex → St → Option R
  | .normal, s => k s
  | e, s => K e s
def Ex.block {R : Type} (id : Nat) (K : Ex → St → Option R) : Ex → St → Option R
  | .exit j, s => if j = id then K .normal s else K (.exit j) s
  | e, s => K e s
def pruneL (live : List Nat) : Nat → List AV → List AV
  | _, [] => []
  | n, a :: l => (bif live.contains n then a else .bad) :: pruneL live (n + 1) l
def pruneH (live : List Nat) : Heap → Heap
  | [] => []
  | (k, b) :: r => bif live.contains k then (k, b) :: pruneH live r else pruneH live r
/-- what is not named is forgotten -/
def St.prune (H : List Nat × List Nat) (st : St) : St :=
  let s : St := ⟨pruneL H.1 0 st.tmps, st.heap⟩
  let s := s.ren (fun k => H.2.contains k) (fun _ => .bad)
  ⟨s.tmps, pruneH H.2 s.heap⟩
def firstRegion : Code → Nat
  | .region id _ _ => id
  | .seq a _ => firstRegion a
  | .block _ a => firstRegion a
  | .loop a => firstRegion a
  | _ => 0
structure Hint where
  live : List Nat := []
  names : List Nat := []
  live' : List Nat := []
  names' : List Nat := []
  lr : List Nat := []
  nr : List Nat := []
def Ex.loop {R : Type} (H : Hint) (k : St → Option R) (K : Ex → St → Option R) : Ex → St → Option R
  | .normal, s => k (s.prune (H.live, H.names))
  | .exit j, s => K (.exit j) (s.prune (H.live', H.names'))
  | .ret, s => K .ret (s.prune (H.lr, H.nr))
def loopK {R : Type} (body : St → (Ex → St → Option R) → Option R) (H : Hint) : Nat → St → (Ex → St → Option R) → Option R
  | 0, _, _ => none
  | n + 1, st, K => body st (Ex.loop H (fun s => loopK body H n s K) K)
def codeK {R : Type} (τ : TypeId → TI) (ft : FuncId → Option FE) (hint : Nat → Hint) (ord : Nat → List Nat) : Code → Nat → St → (Ex → St → Option R) → Option R
  | .skip, _, st, K => K .normal st
  | .region id ops draw, _, st, K => opsK τ ft ops (bif draw then (ord id).filterMap (ops[·]?) else ops.toList) st (K .normal)
  | .seq a b, n, st, K => codeK τ ft hint ord a n st (Ex.next (fun s => codeK τ ft hint ord b n s K) K)
  | .cond c a b, n, st, K => match evalO st c with
    | .v (.bool x) => bif x then codeK τ ft hint ord a n st K else codeK τ ft hint ord b n st K
    | _ => none
  | .block id c, n, st, K => codeK τ ft hint ord c n st (Ex.block id K)
  | .loop c, n, st, K => loopK (codeK τ ft hint ord c n) (hint (firstRegion c)) n (st.prune ((hint (firstRegion c)).live, (hint (firstRegion c)).names)) K
  | .exit id, _, st, K => K (.exit id) st
  | .ret, _, st, K => K .ret st
  | _, _, _, _ => none
def resultsE (τ : TypeId → TI) (st : St) : List ResultVar → Option (List AV)
  | [] => some []
  | .tmp t :: r => (resultsE τ st r).map (st.tmps.getD t .bad :: ·)
  | .cell t e :: r => match loadE st.heap (τ e) (st.tmps.getD t .bad), resultsE τ st r with
    | some a, some l => some (a :: l)
    | _, _ => none
def retK (τ : TypeId → TI) (fn : Func) (fr : Bool) (rs : List (Bool × List CT)) : Ex → St → Option (CT.denP rs)
  | .exit _, _ => none
  | _, st => match resultsE τ st fn.results.toList with
    | some l0 =>
      match resultsE τ (st.freezeAll (ownsL (l0.flatMap AV.cells))) fn.results.toList with
      | some l => match fitsP rs l, marshP rs l with
        | true, some (f, y) => bif f || !fr then some y else none
        | _, _ => none
      | none => none
    | none => none
/-- the function by the interpreter -/
def runF (τ : TypeId → TI) (ft : FuncId → Option FE) (hint : Nat → Hint) (ord : Nat → List Nat) (fn : Func) (ps rs : List (Bool × List CT)) (fr : Bool) (n : Nat) (x : CT.denP ps) : Option (CT.denP rs) :=
  match fn.body with
  | some c => codeK τ ft hint ord c n ⟨valsAV false ps x ++ List.replicate (fn.ntmps - ps.length) .bad, []⟩ (retK τ fn fr rs)
  | none => none

end
end Go.Proofs.Ai

set_option linter.unusedVariables false
set_option linter.constructorNameAsVariable false
namespace Go.Proofs.Ai
open Go.RowKit

/-! ### 4. What abstract values mean -/
abbrev Rho := Nat → Option (Nat × Nat)
def hdr : Option (Nat × Nat) → Nat → Value
  | none, _ => .slice none 0 0
  | some (g, cap), n => .slice (some ⟨g, 0, none⟩) n cap
def VOk : Value → Prop
  | .int k n => IntOk k n
  | .bool _ => True
  | .string s => s.size ≤ maxLen
  | _ => False

mutual
def ConcV (w : World) (I : Bool → Nat → Prop) (h : Heap) (ρ : Rho) : AV → Value → Prop
  | .v x, u => u = x ∧ VOk x
  | .any k, u => ∃ n, u = .int k n ∧ IntOk k n
  | .one, u => u.oneCell' = true
  | .z, u => u = .slice none 0 0
  | .d fr cs xs, u => Rep w (I fr) (.l cs) xs u
  | .q fr cs x, u => ∃ b off, u = .pointer (some ⟨b, off, none⟩) ∧ I fr b ∧ RepL w (I fr) cs x b off
  | .o k, u => ∃ fr e cs xs, hget h k = some (.sl fr e cs xs) ∧ u = hdr (ρ k) xs.length
  | .p k off, u => ∃ cells g c, hget h k = some (.box cells) ∧ ρ k = some (g, c) ∧ u = .pointer (some ⟨g, off, none⟩)
  | .e k i j, u => ∃ fr e cs xs g c, hget h k = some (.sl fr e cs xs) ∧ ρ k = some (g, c) ∧ i < xs.length ∧ u = .pointer (some ⟨g, i * cs.length + j, none⟩)
  | .g l, u => ∃ us, u = .agg us.toArray ∧ ConcVs w I h ρ l us
  | .t l, u => ∃ us, u = .tuple us.toArray ∧ ConcVs w I h ρ l us
  | .f fn caps, u => ∃ us, u = .func (.func fn) #[] us.toArray ∧ ConcVs w I h ρ caps us
  | .u, u => u = undef
  | .pn x a, u => u = x ∧ ConcV w I h ρ a u
  | .bad, _ => True
def ConcVs (w : World) (I : Bool → Nat → Prop) (h : Heap) (ρ : Rho) : List AV → List Value → Prop
  | [], [] => True
  | a :: l, u :: us => ConcV w I h ρ a u ∧ ConcVs w I h ρ l us
  | _, _ => False
end

theorem ConcVs_length {w : World} {I : Bool → Nat → Prop} {h : Heap} {ρ : Rho} : ∀ {l : List AV} {us : List Value}, ConcVs w I h ρ l us → l.length = us.length
  | [], [], _ => rfl
  | _ :: _, _ :: _, hc => by unfold ConcVs at hc; simp [ConcVs_length hc.2]
  | [], _ :: _, hc => by unfold ConcVs at hc; exact hc.elim
  | _ :: _, [], hc => by unfold ConcVs at hc; exact hc.elim

theorem ConcVs_get {w : World} {I : Bool → Nat → Prop} {h : Heap} {ρ : Rho} : ∀ {l : List AV} {us : List Value}, ConcVs w I h ρ l us → ∀ (i : Nat) (a : AV), l[i]? = some a → ∃ u, us[i]? = some u ∧ ConcV w I h ρ a u
  | [], [], _, i, a, hi => by simp at hi
  | x :: l, u :: us, hc, i, a, hi => by
    unfold ConcVs at hc
    cases i with
    | zero => simp at hi; subst hi; exact ⟨u, by simp, hc.1⟩
    | succ i => simpa using ConcVs_get hc.2 i a (by simpa using hi)
  | [], _ :: _, hc, _, _, _ => by unfold ConcVs at hc; exact hc.elim
  | _ :: _, [], hc, _, _, _ => by unfold ConcVs at hc; exact hc.elim

theorem ConcVs_of {w : World} {I : Bool → Nat → Prop} {h : Heap} {ρ : Rho} : ∀ {l : List AV} {us : List Value}, l.length = us.length → (∀ (i : Nat) (a : AV) (u : Value), l[i]? = some a → us[i]? = some u → ConcV w I h ρ a u) → ConcVs w I h ρ l us
  | [], [], _, _ => by unfold ConcVs; trivial
  | x :: l, u :: us, hl, hh => by
    unfold ConcVs
    exact ⟨hh 0 x u (by simp) (by simp), ConcVs_of (by simpa using hl) (fun i a v h1 h2 => hh (i + 1) a v (by simpa using h1) (by simpa using h2))⟩
  | [], _ :: _, hl, _ => by simp at hl
  | _ :: _, [], hl, _ => by simp at hl

theorem ConcVs_append {w : World} {I : Bool → Nat → Prop} {h : Heap} {ρ : Rho} : ∀ {l l' : List AV} {us us' : List Value}, ConcVs w I h ρ l us → ConcVs w I h ρ l' us' → ConcVs w I h ρ (l ++ l') (us ++ us')
  | [], _, [], _, _, h' => by simpa using h'
  | x :: l, _, u :: us, _, hc, h' => by
    unfold ConcVs at hc
    show ConcVs w I h ρ (x :: (l ++ _)) (u :: (us ++ _))
    unfold ConcVs
    exact ⟨hc.1, ConcVs_append hc.2 h'⟩
  | [], _, _ :: _, _, hc, _ => by unfold ConcVs at hc; exact hc.elim
  | _ :: _, _, [], _, hc, _ => by unfold ConcVs at hc; exact hc.elim

/-! the heap's laws -/
theorem hget_hset (h : Heap) (k n : Nat) (x : AB) : hget (hset h k x) n = if n = k then some x else hget h n := by
  induction h with
  | nil => simp only [hset, hget]; by_cases e : k = n <;> simp [e, eq_comm]
  | cons y r ih =>
    obtain ⟨m, b⟩ := y
    simp only [hset]
    by_cases e : m = k
    · subst e
      simp only [if_true, hget]
      by_cases e2 : m = n
      · simp [e2]
      · simp [e2, Ne.symm e2]
    · simp only [if_neg e, hget, ih]
      by_cases e2 : m = n
      · subst e2; simp [e]
      · simp [e2]
theorem hget_hdel (h : Heap) (k n : Nat) : hget (hdel h k) n = if n = k then none else hget h n := by
  induction h with
  | nil => simp [hdel, hget]
  | cons y r ih =>
    obtain ⟨m, b⟩ := y
    simp only [hdel]
    by_cases e : m = k
    · subst e
      simp only [if_true, hget, ih]
      by_cases e2 : n = m
      · simp [e2]
      · simp [e2, Ne.symm e2]
    · simp only [if_neg e, hget, ih]
      by_cases e2 : m = n
      · subst e2; simp [e]
      · simp [e2]
theorem hget_hren (keep : Nat → Bool) (sub : Nat → AV) (h : Heap) (n : Nat) : hget (hren keep sub h) n = (hget h n).map (AB.ren keep sub) := by
  induction h with
  | nil => simp [hren, hget]
  | cons y r ih =>
    obtain ⟨m, b⟩ := y
    simp only [hren, hget, ih]
    by_cases e : m = n <;> simp [e]

/-! own blocks; memory that is only read -/
/-- another integer may stand where one stood -/
def IntEqO (o o' : Option Obj) : Prop := o' = o ∨ ∃ c c' t fz, o = some (.cells c t fz) ∧ o' = some (.cells c' t fz) ∧ c'.size = c.size ∧
  ∀ (j : Nat) v, c[j]? = some v → c'[j]? = some v ∨ ∃ k n n', v = .int k n ∧ c'[j]? = some (.int k n') ∧ IntOk k n'
structure Env where
  P : Program
  w0 : World
  F : Nat → Prop
  own0 : Nat → Prop
  er : Bool
def Env.base (E : Env) : Nat := E.w0.heap.size
def Own (h : Heap) (ρ : Rho) (b : Nat) : Prop := ∃ k ab c, hget h k = some ab ∧ ρ k = some (b, c)
def Imm (E : Env) (w : World) (h : Heap) (ρ : Rho) (fr : Bool) (b : Nat) : Prop :=
  b < w.heap.size ∧ ¬ Own h ρ b ∧ (fr = true → E.base ≤ b) ∧ (fr = false → E.F b ∨ E.base ≤ b ∨ E.own0 b) ∧ (E.er = true ∨ fr = true → ∃ c t, w.heap[b]? = some (.cells c t (0, 0)))
def FrmOk (E : Env) (b : Nat) (o o0 : Option Obj) : Prop := o = o0 ∨ (E.er = true ∧ E.F b ∧ IntEqO o0 o)

def BlockOk (E : Env) (w : World) (h : Heap) (ρ : Rho) (k : Nat) : AB → Prop
  | .box cells => ∃ g c T cur, ρ k = some (g, c) ∧ (E.base ≤ g ∨ E.own0 g) ∧ w.heap[g]? = some (.cells cur T (0, 0)) ∧ ConcVs w (Imm E w h ρ) h ρ cells cur.toList
  | .sl fr e cs xs => (ρ k = none ∧ xs = []) ∨
      ∃ g cap cur, ρ k = some (g, cap) ∧ (E.base ≤ g ∨ E.own0 g) ∧ (fr = true → E.base ≤ g) ∧ w.heap[g]? = some (.cells cur e (0, 0)) ∧ xs.length ≤ cap ∧ cap ≤ maxLen ∧ cur.size = cap * cs.length ∧
        ∀ i y, xs[i]? = some y → RepL w (Imm E w h ρ fr) cs y g (i * cs.length)

structure Conc (E : Env) (st : St) (a : Act) (w : World) (ρ : Rho) : Prop where
  tmp : ConcVs w (Imm E w st.heap ρ) st.heap ρ st.tmps a.tmps.toList
  dfr : a.defers = []
  blk : ∀ k ab, hget st.heap k = some ab → BlockOk E w st.heap ρ k ab
  inj : ∀ k k' ab ab' g c c', hget st.heap k = some ab → hget st.heap k' = some ab' → ρ k = some (g, c) → ρ k' = some (g, c') → k = k'
  frm : ∀ b, b < E.base → ¬ E.own0 b → FrmOk E b w.heap[b]? E.w0.heap[b]?
  size : E.base ≤ w.heap.size
  os : w.os = E.w0.os
  tape : w.tape = E.w0.tape
  output : w.output = E.w0.output

/-! ### 5. Steps keep meanings -/
def SameShape : AB → AB → Prop
  | .box _, .box _ => True
  | .sl _ _ cs xs, .sl _ _ cs' xs' => cs.length = cs'.length ∧ xs.length = xs'.length
  | _, _ => False
theorem SameShape.refl (ab : AB) : SameShape ab ab := by cases ab <;> simp [SameShape]

section
variable {w w' : World} {I I' : Bool → Nat → Prop} {h h' : Heap} {ρ ρ' : Rho} {keep : Nat → Bool} {sub : Nat → AV}

mutual
theorem ConcV.step (hI : ∀ fr b, I fr b → I' fr b ∧ w'.heap[b]? = w.heap[b]?)
    (hk : ∀ k ab, keep k = true → hget h k = some ab → ρ' k = ρ k ∧ ∃ ab', hget h' k = some ab' ∧ SameShape ab ab')
    (hs : ∀ k u, keep k = false → ConcV w I h ρ (.o k) u → ConcV w' I' h' ρ' (sub k) u) :
    (a : AV) → (u : Value) → ConcV w I h ρ a u → ConcV w' I' h' ρ' (a.ren keep sub) u
  | .v x, u, hc => by unfold AV.ren; unfold ConcV at hc ⊢; exact hc
  | .any x, u, hc => by unfold AV.ren; unfold ConcV at hc ⊢; exact hc
  | .one, u, hc => by unfold AV.ren; unfold ConcV at hc ⊢; exact hc
  | .z, u, hc => by unfold AV.ren; unfold ConcV at hc ⊢; exact hc
  | .d fr cs xs, u, hc => by
    unfold AV.ren; unfold ConcV at hc ⊢
    exact Rep.mono (fun b hb => (hI fr b hb).1) (fun b hb => (hI fr b hb).2) _ _ _ hc
  | .q fr cs x, u, hc => by
    unfold AV.ren; unfold ConcV at hc ⊢
    obtain ⟨b, off, e, hb, hr⟩ := hc
    exact ⟨b, off, e, (hI fr b hb).1, RepL.mono (fun b hb => (hI fr b hb).1) (fun b hb => (hI fr b hb).2) _ _ _ _ (hI fr b hb).2 hr⟩
  | .o k, u, hc => by
    unfold AV.ren
    cases hkk : keep k with
    | false => exact hs k u hkk hc
    | true =>
      simp only [cond_true]
      unfold ConcV at hc ⊢
      obtain ⟨fr, e, cs, xs, hg, hu⟩ := hc
      obtain ⟨hr, ab', hg', hsh⟩ := hk k _ hkk hg
      cases ab' with
      | box _ => simp [SameShape] at hsh
      | sl fr' e' cs' xs' => exact ⟨fr', e', cs', xs', hg', by rw [hr, hu, hsh.2]⟩
  | .p k off, u, hc => by
    unfold AV.ren
    cases hkk : keep k with
    | false => simp only [cond_false]; unfold ConcV; trivial
    | true =>
      simp only [cond_true]
      unfold ConcV at hc ⊢
      obtain ⟨cells, g, c, hg, hr0, hu⟩ := hc
      obtain ⟨hr, ab', hg', hsh⟩ := hk k _ hkk hg
      cases ab' with
      | box cells' => exact ⟨cells', g, c, hg', by rw [hr, hr0], hu⟩
      | sl fr' e' cs' xs' => simp [SameShape] at hsh
  | .e k i j, u, hc => by
    unfold AV.ren
    cases hkk : keep k with
    | false => simp only [cond_false]; unfold ConcV; trivial
    | true =>
      simp only [cond_true]
      unfold ConcV at hc ⊢
      obtain ⟨fr, e, cs, xs, g, c, hg, hr0, hi, hu⟩ := hc
      obtain ⟨hr, ab', hg', hsh⟩ := hk k _ hkk hg
      cases ab' with
      | box _ => simp [SameShape] at hsh
      | sl fr' e' cs' xs' => exact ⟨fr', e', cs', xs', g, c, hg', by rw [hr, hr0], by rw [← hsh.2]; exact hi, by rw [← hsh.1]; exact hu⟩
  | .g l, u, hc => by
    unfold AV.ren; unfold ConcV at hc ⊢
    obtain ⟨us, e, hl⟩ := hc
    exact ⟨us, e, ConcVs.step hI hk hs l us hl⟩
  | .t l, u, hc => by
    unfold AV.ren; unfold ConcV at hc ⊢
    obtain ⟨us, e, hl⟩ := hc
    exact ⟨us, e, ConcVs.step hI hk hs l us hl⟩
  | .f fn l, u, hc => by
    unfold AV.ren; unfold ConcV at hc ⊢
    obtain ⟨us, e, hl⟩ := hc
    exact ⟨us, e, ConcVs.step hI hk hs l us hl⟩
  | .u, u, hc => by unfold AV.ren; unfold ConcV at hc ⊢; exact hc
  | .pn x a, u, hc => by unfold AV.ren; unfold ConcV at hc ⊢; exact ⟨hc.1, ConcV.step hI hk hs a u hc.2⟩
  | .bad, u, hc => by unfold AV.ren; unfold ConcV; trivial
theorem ConcVs.step (hI : ∀ fr b, I fr b → I' fr b ∧ w'.heap[b]? = w.heap[b]?)
    (hk : ∀ k ab, keep k = true → hget h k = some ab → ρ' k = ρ k ∧ ∃ ab', hget h' k = some ab' ∧ SameShape ab ab')
    (hs : ∀ k u, keep k = false → ConcV w I h ρ (.o k) u → ConcV w' I' h' ρ' (sub k) u) :
    (l : List AV) → (us : List Value) → ConcVs w I h ρ l us → ConcVs w' I' h' ρ' (AV.renL keep sub l) us
  | [], us, hc => by unfold AV.renL; cases us <;> (unfold ConcVs at hc ⊢; exact hc)
  | a :: l, us, hc => by
    unfold AV.renL
    cases us with
    | nil => unfold ConcVs at hc; exact hc.elim
    | cons u us =>
      unfold ConcVs at hc ⊢
      exact ⟨ConcV.step hI hk hs a u hc.1, ConcVs.step hI hk hs l us hc.2⟩
end

mutual
theorem AV.ren_all (sub : Nat → AV) : (a : AV) → a.ren (fun _ => true) sub = a
  | .v _ | .any _ | .one | .z | .d _ _ _ | .q _ _ _ | .u | .bad => by unfold AV.ren; rfl
  | .o _ | .p _ _ | .e _ _ _ => by unfold AV.ren; rfl
  | .g l => by unfold AV.ren; rw [AV.renL_all]
  | .t l => by unfold AV.ren; rw [AV.renL_all]
  | .f _ l => by unfold AV.ren; rw [AV.renL_all]
  | .pn _ a => by unfold AV.ren; rw [AV.ren_all]
theorem AV.renL_all (sub : Nat → AV) : (l : List AV) → AV.renL (fun _ => true) sub l = l
  | [] => by unfold AV.renL; rfl
  | a :: l => by unfold AV.renL; rw [AV.ren_all, AV.renL_all]
end

/-- nothing is renamed -/
theorem ConcV.kept (hI : ∀ fr b, I fr b → I' fr b ∧ w'.heap[b]? = w.heap[b]?)
    (hk : ∀ k ab, hget h k = some ab → ρ' k = ρ k ∧ ∃ ab', hget h' k = some ab' ∧ SameShape ab ab') {a : AV} {u : Value} (hc : ConcV w I h ρ a u) : ConcV w' I' h' ρ' a u := by
  have := ConcV.step (keep := fun _ => true) (sub := fun _ => .bad) hI (fun k ab _ hg => hk k ab hg) (fun _ _ hf => by simp at hf) a u hc
  rwa [AV.ren_all] at this
theorem ConcVs.kept (hI : ∀ fr b, I fr b → I' fr b ∧ w'.heap[b]? = w.heap[b]?)
    (hk : ∀ k ab, hget h k = some ab → ρ' k = ρ k ∧ ∃ ab', hget h' k = some ab' ∧ SameShape ab ab') {l : List AV} {us : List Value} (hc : ConcVs w I h ρ l us) : ConcVs w' I' h' ρ' l us := by
  have := ConcVs.step (keep := fun _ => true) (sub := fun _ => .bad) hI (fun k ab _ hg => hk k ab hg) (fun _ _ hf => by simp at hf) l us hc
  rwa [AV.renL_all] at this
end

end Go.Proofs.Ai

set_option linter.unusedVariables false
set_option linter.constructorNameAsVariable false
namespace Go.Proofs.Ai
open Go.RowKit

section
variable {E : Env} {st : St} {a : Act} {w w' : World} {h h' : Heap} {ρ ρ' : Rho} {keep : Nat → Bool} {sub : Nat → AV}

theorem Imm.step (hsz : w.heap.size ≤ w'.heap.size) (hown : ∀ b, b < w.heap.size → Own h' ρ' b → Own h ρ b)
    (hblk : ∀ b, b < w.heap.size → ¬ Own h ρ b → w'.heap[b]? = w.heap[b]?) :
    ∀ fr b, Imm E w h ρ fr b → Imm E w' h' ρ' fr b ∧ w'.heap[b]? = w.heap[b]? := by
  intro fr b ⟨h1, h2, h3, h4, h5⟩
  exact ⟨⟨Nat.lt_of_lt_of_le h1 hsz, fun ho => h2 (hown b h1 ho), h3, h4, fun he => by rw [hblk b h1 h2]; exact h5 he⟩, hblk b h1 h2⟩

theorem BlockOk.step (hI : ∀ fr b, Imm E w h ρ fr b → Imm E w' h' ρ' fr b ∧ w'.heap[b]? = w.heap[b]?)
    (hk : ∀ k ab, keep k = true → hget h k = some ab → ρ' k = ρ k ∧ ∃ ab', hget h' k = some ab' ∧ SameShape ab ab')
    (hs : ∀ k u, keep k = false → ConcV w (Imm E w h ρ) h ρ (.o k) u → ConcV w' (Imm E w' h' ρ') h' ρ' (sub k) u)
    {k : Nat} {ab : AB} (hb : BlockOk E w h ρ k ab) (hρ : ρ' k = ρ k) (hw : ∀ g c, ρ k = some (g, c) → w'.heap[g]? = w.heap[g]?) : BlockOk E w' h' ρ' k (ab.ren keep sub) := by
  cases ab with
  | box cells =>
    obtain ⟨g, c, T, cur, h1, h2, h3, h4⟩ := hb
    exact ⟨g, c, T, cur, by rw [hρ, h1], h2, by rw [hw g c h1, h3], ConcVs.step hI hk hs _ _ h4⟩
  | sl fr e cs xs =>
    rcases hb with ⟨h1, h2⟩ | ⟨g, cap, cur, h1, h2, hfr, h3, h4, h5, h6, h7⟩
    · exact .inl ⟨by rw [hρ, h1], h2⟩
    · refine .inr ⟨g, cap, cur, by rw [hρ, h1], h2, hfr, by rw [hw g cap h1, h3], h4, h5, h6, fun i y hi => ?_⟩
      exact RepL.mono (fun b hb => (hI fr b hb).1) (fun b hb => (hI fr b hb).2) _ _ _ _ (hw g cap h1) (h7 i y hi)

theorem Conc.lt (hc : Conc E st a w ρ) {b : Nat} (ho : Own st.heap ρ b) : b < w.heap.size := by
  obtain ⟨k, ab, c, hg, hr⟩ := ho
  have hb := hc.blk k ab hg
  cases ab with
  | box cells =>
    obtain ⟨g, c', T, cur, h1, h2, h3, h4⟩ := hb
    rw [h1] at hr
    simp only [Option.some.injEq, Prod.mk.injEq] at hr
    rw [← hr.1]
    exact (Array.getElem?_eq_some_iff.1 h3).1
  | sl fr e cs xs =>
    rcases hb with ⟨h1, h2⟩ | ⟨g, cap, cur, h1, h2, hfr, h3, _⟩
    · rw [h1] at hr; simp at hr
    · rw [h1] at hr
      simp only [Option.some.injEq, Prod.mk.injEq] at hr
      rw [← hr.1]
      exact (Array.getElem?_eq_some_iff.1 h3).1

/-! #### a temporary is written -/
theorem ConcVs.set {w : World} {I : Bool → Nat → Prop} : ∀ {l : List AV} {us : List Value} (t : Nat) {x : AV} {u : Value}, ConcVs w I h ρ l us → ConcV w I h ρ x u → ConcVs w I h ρ (l.set t x) (us.set t u)
  | [], [], t, _, _, hc, _ => by simpa using hc
  | y :: l, v :: us, t, x, u, hc, hx => by
    unfold ConcVs at hc
    cases t with
    | zero => show ConcVs w I h ρ (x :: l) (u :: us); unfold ConcVs; exact ⟨hx, hc.2⟩
    | succ t => show ConcVs w I h ρ (y :: l.set t x) (v :: us.set t u); unfold ConcVs; exact ⟨hc.1, ConcVs.set t hc.2 hx⟩
  | [], _ :: _, _, _, _, hc, _ => by unfold ConcVs at hc; exact hc.elim
  | _ :: _, [], _, _, _, hc, _ => by unfold ConcVs at hc; exact hc.elim

theorem Conc.set (hc : Conc E st a w ρ) (t : Option Tmp) {x : AV} {u : Value} (hx : ConcV w (Imm E w st.heap ρ) st.heap ρ x u) : Conc E (st.set t x) (a.put t u) w ρ := by
  cases t with
  | none => exact hc
  | some t =>
    refine ⟨?_, hc.dfr, hc.blk, hc.inj, hc.frm, hc.size, hc.os, hc.tape, hc.output⟩
    show ConcVs w _ _ ρ (st.tmps.set t x) (a.tmps.setIfInBounds t u).toList
    rw [Array.toList_setIfInBounds]
    exact ConcVs.set t hc.tmp hx

/-! #### an operand -/
theorem Conc.get (hc : Conc E st a w ρ) (t : Tmp) : ConcV w (Imm E w st.heap ρ) st.heap ρ (st.tmps.getD t .bad) (a.tmps.getD t undef) := by
  rw [List.getD_eq_getElem?_getD]
  cases h1 : st.tmps[t]? with
  | none => simp only [Option.getD_none]; unfold ConcV; trivial
  | some x =>
    obtain ⟨u, hu, hx⟩ := ConcVs_get hc.tmp t x h1
    rw [Array.getElem?_toList] at hu
    rw [Array.getD_eq_getD_getElem?, hu]
    exact hx

theorem constAV_ok {I : Bool → Nat → Prop} (v : Value) : ConcV w I h ρ (constAV v) v := by
  cases v <;> try (simp only [constAV]; unfold ConcV; trivial)
  case int k n =>
    simp only [constAV]
    cases hh : (Lit.int k n).wf with
    | true => simp only [cond_true]; unfold ConcV; exact ⟨rfl, hh⟩
    | false => simp only [cond_false]; unfold ConcV; trivial
  case string s =>
    simp only [constAV]
    by_cases hh : s.size ≤ maxLen
    · simp only [hh, decide_true, cond_true]; unfold ConcV; exact ⟨rfl, hh⟩
    · simp only [hh, decide_false, cond_false]; unfold ConcV; trivial
  case slice a l c =>
    unfold constAV
    split <;> unfold ConcV <;> first | trivial | (rename_i hx; cases hx) | skip
    all_goals first | (rename_i h1 h2; cases h2) | rfl | trivial | (simp_all) 

theorem ConcV.strip {I : Bool → Nat → Prop} : ∀ {x : AV} {u : Value}, ConcV w I h ρ x u → ConcV w I h ρ x.strip u := by
  intro x u hx
  cases x <;> try exact hx
  unfold ConcV at hx
  exact hx.2
theorem Conc.eval (hc : Conc E st a w ρ) (x : Operand) : ConcV w (Imm E w st.heap ρ) st.heap ρ (evalO st x) (a.eval x) := by
  cases x with
  | tmp t => exact (hc.get t).strip
  | const v => exact constAV_ok v
  | global g => simp only [evalO]; unfold ConcV; trivial
  | func f => simp only [evalO, Act.eval]; unfold ConcV; exact ⟨[], by simp, by unfold ConcVs; trivial⟩
end
end Go.Proofs.Ai
