/-
  An evaluator for the model's code over an abstract heap: definitions.
-/
import Derived.Orders
namespace Go.Ab

/-- A slice's capacity: known; all that the object has behind the slice's place; the same less l elements (and the slice is empty, and its place is the elder one if nothing is left). -/
inductive Cap where
  | ex (c : Nat)
  | full
  | tail (l : Nat)
  deriving DecidableEq, Inhabited

/-- Abstract values: an address is an object's number and an offset. -/
inductive V where
  | bool (b : Bool)
  | int (k : IntKind) (n : Int)
  | str (s : ByteArray)
  | nilp
  | ptr (id off : Nat)
  | nils
  | sl (id off len sz : Nat) (cap : Cap)
  | func (fn : Fn) (first captured : List V)
  | nilFunc
  | iface (t : TypeId) (v : V)
  | nilIface
  | agg (cs : List V)
  | tuple (vs : List V)
  | chan (id : Nat)
  | nilChan
  /-- What an object holds that is a channel: its room, what waits; no value of the program's. -/
  | chq (cap : Nat) (buf : List V)
  deriving Inhabited

abbrev V.un : V := .tuple []

/-- What a value's cells are. -/
def V.cells : V → List V
  | .agg cs => cs
  | v => [v]

/-- May it be one cell's value? -/
def V.one : V → Bool
  | .agg _ | .tuple _ | .chq .. => false
  | _ => true

/-- Is it a channel's? -/
def isq : List V → Bool
  | .chq .. :: _ => true
  | _ => false

mutual
def V.same : V → V → Bool
  | .bool a, .bool b => a == b
  | .int k n, .int k' n' => k == k' && n == n'
  | .str s, .str s' => decide (s = s')
  | .nilp, .nilp => true
  | .ptr i o, .ptr i' o' => i == i' && o == o'
  | .nils, .nils => true
  | .sl i o l z c, .sl i' o' l' z' c' => i == i' && o == o' && l == l' && z == z' && c == c'
  | .nilFunc, .nilFunc => true
  | .iface t v, .iface t' v' => t == t' && V.same v v'
  | .nilIface, .nilIface => true
  | .agg cs, .agg cs' => V.sameL cs cs'
  | .tuple cs, .tuple cs' => V.sameL cs cs'
  | .chan i, .chan i' => i == i'
  | .nilChan, .nilChan => true
  | _, _ => false
def V.sameL : List V → List V → Bool
  | [], [] => true
  | a :: as, b :: bs => V.same a b && V.sameL as bs
  | _, _ => false
end

mutual
theorem V.same_eq : ∀ (a b : V), V.same a b = true → a = b
  | .bool a, b, h => by cases b <;> simp_all [V.same]
  | .int k n, b, h => by cases b <;> simp_all [V.same]
  | .str s, b, h => by cases b <;> simp_all [V.same]
  | .nilp, b, h => by cases b <;> simp_all [V.same]
  | .ptr i o, b, h => by cases b <;> simp_all [V.same]
  | .nils, b, h => by cases b <;> simp_all [V.same]
  | .sl i o l z c, b, h => by cases b <;> simp_all [V.same]
  | .func _ _ _, b, h => by cases b <;> simp_all [V.same]
  | .nilFunc, b, h => by cases b <;> simp_all [V.same]
  | .iface t v, b, h => by
    cases b <;> simp only [V.same, Bool.and_eq_true, beq_iff_eq, Bool.false_eq_true] at h
    rw [h.1, V.same_eq v _ h.2]
  | .nilIface, b, h => by cases b <;> simp_all [V.same]
  | .agg cs, b, h => by
    cases b <;> simp only [V.same, Bool.false_eq_true] at h
    rw [V.sameL_eq cs _ h]
  | .tuple cs, b, h => by
    cases b <;> simp only [V.same, Bool.false_eq_true] at h
    rw [V.sameL_eq cs _ h]
  | .chan i, b, h => by cases b <;> simp_all [V.same]
  | .nilChan, b, h => by cases b <;> simp_all [V.same]
  | .chq _ _, b, h => by cases b <;> simp_all [V.same]
theorem V.sameL_eq : ∀ (a b : List V), V.sameL a b = true → a = b
  | [], b, h => by cases b <;> simp_all [V.sameL]
  | a :: as, b, h => by
    cases b <;> simp only [V.sameL, Bool.and_eq_true, Bool.false_eq_true] at h
    rw [V.same_eq a _ h.1, V.sameL_eq as _ h.2]
end

/-- A constant's value: no addresses in it. -/
def ofVal : Value → Option V
  | .bool b => some (.bool b)
  | .int k n => some (.int k n)
  | .string s => some (.str s)
  | .pointer none => some .nilp
  | .slice none 0 0 => some .nils
  | .nilFunc => some .nilFunc
  | .nilIface => some .nilIface
  | .chan none => some .nilChan
  | .tuple ⟨[]⟩ => some V.un
  | _ => none

/-- A list of cells' constants. -/
def ofVals : List Value → Option (List V)
  | [] => some []
  | c :: cs => do some ((← ofVal c) :: (← ofVals cs))

/-- A constant, a struct's or an array's too. -/
def ofCon : Value → Option V
  | .agg cs => (ofVals cs.toList).map .agg
  | v => ofVal v

/-! ### The heap -/

inductive Tr (α : Type) where
  | leaf
  | node (v : Option α) (l r : Tr α)

namespace Tr
variable {α : Type}
def get : Tr α → Nat → Option α
  | .leaf, _ => none
  | .node v l r, k => if k = 0 then v else if k % 2 = 1 then get l (k / 2) else get r (k / 2 - 1)
def kids : Tr α → Option α × Tr α × Tr α
  | .leaf => (none, .leaf, .leaf)
  | .node v l r => (v, l, r)
def put : Nat → Tr α → Nat → Option α → Tr α
  | 0, t, _, _ => t
  | n + 1, t, k, x =>
    if k = 0 then .node x t.kids.2.1 t.kids.2.2
    else if k % 2 = 1 then .node t.kids.1 (put n t.kids.2.1 (k / 2) x) t.kids.2.2
    else .node t.kids.1 t.kids.2.1 (put n t.kids.2.2 (k / 2 - 1) x)
def set (t : Tr α) (k : Nat) (x : Option α) : Tr α := put (k + 1) t k x
theorem get_kids (t : Tr α) (k : Nat) : t.get k = if k = 0 then t.kids.1 else if k % 2 = 1 then t.kids.2.1.get (k / 2) else t.kids.2.2.get (k / 2 - 1) := by
  cases t <;> simp [get, kids]
theorem get_put : ∀ (n : Nat) (t : Tr α) (k j : Nat) (x : Option α), k < n → (put n t k x).get j = if j = k then x else t.get j
  | 0, _, _, _, _, h => by omega
  | n + 1, t, k, j, x, h => by
    unfold put
    rw [get_kids t j]
    split
    · subst k
      by_cases hj : j = 0 <;> simp [get, hj]
    · split
      · simp only [get]
        rw [get_put n _ _ _ _ (by omega)]
        by_cases hj : j = 0
        · have : ¬ j = k := by omega
          simp only [hj, if_true] at *
          rw [if_neg (by omega)]
        · simp only [hj, if_false]
          by_cases hj2 : j % 2 = 1
          · simp only [hj2, if_true]
            by_cases e : j = k
            · subst e; simp
            · rw [if_neg e, if_neg (by omega)]
          · simp only [hj2, if_false]
            rw [if_neg (by omega)]
      · simp only [get]
        rw [get_put n _ _ _ _ (by omega)]
        by_cases hj : j = 0
        · have : ¬ j = k := by omega
          simp only [hj, if_true] at *
          rw [if_neg (by omega)]
        · simp only [hj, if_false]
          by_cases hj2 : j % 2 = 1
          · simp only [hj2, if_true]
            rw [if_neg (by omega)]
          · simp only [hj2, if_false]
            by_cases e : j = k
            · subst e; simp
            · rw [if_neg e, if_neg (by omega)]
theorem get_set (t : Tr α) (k j : Nat) (x : Option α) : (t.set k x).get j = if j = k then x else t.get j := get_put _ _ _ _ _ (by omega)
end Tr

structure Ob where
  cells : List V
  ro : Bool

structure Heap where
  t : Tr Ob
  next : Nat

def Heap.get (H : Heap) (id : Nat) : Option Ob := H.t.get id
def Heap.set (H : Heap) (id : Nat) (o : Option Ob) : Heap := ⟨H.t.set id o, H.next⟩
theorem Heap.get_set (H : Heap) (id j : Nat) (o : Option Ob) : (H.set id o).get j = if j = id then o else H.get j := Tr.get_set _ _ _ _
theorem Heap.next_set (H : Heap) (id : Nat) (o : Option Ob) : (H.set id o).next = H.next := rfl
/-- Room for n numbers. -/
def Heap.res (H : Heap) (n : Nat) : Heap := ⟨H.t, H.next + n⟩
theorem Heap.get_res (H : Heap) (n j : Nat) : (H.res n).get j = H.get j := rfl
theorem Heap.next_res (H : Heap) (n : Nat) : (H.res n).next = H.next + n := rfl

/-- An object that is no channel. -/
def Heap.gt (H : Heap) (id : Nat) : Option Ob :=
  match H.get id with
  | some o => if isq o.cells then none else some o
  | none => none
theorem Heap.gt_some {H : Heap} {id : Nat} {o : Ob} (h : H.gt id = some o) : H.get id = some o ∧ isq o.cells = false := by
  unfold Heap.gt at h
  split at h
  · rename_i x hx
    split at h
    · cases h
    · rename_i hq
      cases h
      exact ⟨hx, by simpa using hq⟩
  · cases h
/-- n cells of an object, from an offset on. -/
def Heap.rd (H : Heap) (id off n : Nat) : Option (List V) := do
  let o ← H.gt id
  if off + n ≤ o.cells.length then some ((o.cells.drop off).take n) else none
/-- Lay cells over an object's, from an offset on. -/
def over (l : List V) (off : Nat) (vs : List V) : List V := l.take off ++ vs ++ l.drop (off + vs.length)
def Heap.wr (H : Heap) (id off : Nat) (vs : List V) : Option Heap := do
  let o ← H.gt id
  if o.ro = false ∧ off + vs.length ≤ o.cells.length ∧ vs.all V.one = true then some (H.set id (some ⟨over o.cells off vs, false⟩)) else none

abbrev Env := List V
end Go.Ab
