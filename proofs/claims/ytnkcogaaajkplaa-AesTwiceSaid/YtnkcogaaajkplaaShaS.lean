/- Layer 1, sha: the digest, in plain words (no program). -/
import Derived.Test.YtnkcogaaajkplaaWord
namespace Go.Xr
open Go
set_option linter.unusedVariables false

def rotr (x : UInt32) (n : Nat) : UInt32 := shr32 x n ||| shl32 x (32 - n)
theorem rotr_alt (x : UInt32) (n : Nat) : shl32 x (32 - n) ||| shr32 x n = rotr x n := UInt32.or_comm _ _

def g8 (p : List UInt8) (i : Nat) : UInt8 := p.getD i 0
def g32 (l : List UInt32) (i : Nat) : UInt32 := l.getD i 0
/-- A word of four bytes, after k of them. -/
def ldw (p : List UInt8) (i : Nat) : Nat → UInt32
  | 0 => 0
  | k + 1 => shl32 (ldw p i k) 8 ||| (g8 p (4 * i + k)).toUInt32
def ldl (p : List UInt8) (i : Nat) : List UInt32 := (List.range i).map fun j => ldw p j 4
def sg0 (x : UInt32) : UInt32 := rotr x 7 ^^^ rotr x 18 ^^^ shr32 x 3
def sg1 (x : UInt32) : UInt32 := rotr x 17 ^^^ rotr x 19 ^^^ shr32 x 10
def bg0 (x : UInt32) : UInt32 := rotr x 2 ^^^ rotr x 13 ^^^ rotr x 22
def bg1 (x : UInt32) : UInt32 := rotr x 6 ^^^ rotr x 11 ^^^ rotr x 25
def schW (l : List UInt32) (i : Nat) : UInt32 := g32 l (i - 16) + g32 l (i - 7) + sg0 (g32 l (i - 15)) + sg1 (g32 l (i - 2))
/-- The words of a block, after j more. -/
def sch (p : List UInt8) : Nat → List UInt32
  | 0 => ldl p 16
  | j + 1 => sch p j ++ [schW (sch p j) (16 + j)]
structure St where
  a : UInt32
  b : UInt32
  c : UInt32
  d : UInt32
  e : UInt32
  f : UInt32
  g : UInt32
  h : UInt32
def rndT (k x : UInt32) (s : St) : UInt32 := s.h + bg1 s.e + ((s.e &&& s.f) ^^^ (~~~s.e &&& s.g)) + k + x
def rndU (s : St) : UInt32 := bg0 s.a + ((s.a &&& s.b) ^^^ (s.a &&& s.c) ^^^ (s.b &&& s.c))
def rnd (k x : UInt32) (s : St) : St := ⟨rndT k x s + rndU s, s.a, s.b, s.c, s.d + rndT k x s, s.e, s.f, s.g⟩
def rnds (K W : List UInt32) : Nat → St → St
  | 0, s => s
  | i + 1, s => rnd (g32 K i) (g32 W i) (rnds K W i s)
def St.of (v : List UInt32) : St := ⟨g32 v 0, g32 v 1, g32 v 2, g32 v 3, g32 v 4, g32 v 5, g32 v 6, g32 v 7⟩
def St.list (s : St) : List UInt32 := [s.a, s.b, s.c, s.d, s.e, s.f, s.g, s.h]
/-- The first m words added. -/
def addW (v : List UInt32) (s : St) (m : Nat) : List UInt32 := (List.range 8).map fun i => if i < m then g32 v i + g32 s.list i else g32 v i
def compress (K v : List UInt32) (p : List UInt8) : List UInt32 := addW v (rnds K (sch p 48) 64 (St.of v)) 8

theorem ldl_length (p : List UInt8) (i : Nat) : (ldl p i).length = i := by simp [ldl]
theorem ldl_succ (p : List UInt8) (i : Nat) : ldl p (i + 1) = ldl p i ++ [ldw p i 4] := by simp [ldl, List.range_succ]
theorem sch_length (p : List UInt8) (j : Nat) : (sch p j).length = 16 + j := by
  induction j with
  | zero => simp [sch, ldl_length]
  | succ j ih => simp [sch, ih]; omega
theorem addW_length (v : List UInt32) (s : St) (m : Nat) : (addW v s m).length = 8 := by simp [addW]
theorem compress_length (K v : List UInt32) (p : List UInt8) : (compress K v p).length = 8 := addW_length _ _ _
theorem getD_eq {α : Type} (l : List α) (i : Nat) (d : α) (h : i < l.length) : l[i]? = some (l.getD i d) := by
  simp [List.getD, h]
theorem g8_eq (l : List UInt8) (i : Nat) (h : i < l.length) : l[i]? = some (g8 l i) := getD_eq l i 0 h
theorem g32_eq (l : List UInt32) (i : Nat) (h : i < l.length) : l[i]? = some (g32 l i) := getD_eq l i 0 h
theorem list8 (v : List UInt32) (h : v.length = 8) : v = [g32 v 0, g32 v 1, g32 v 2, g32 v 3, g32 v 4, g32 v 5, g32 v 6, g32 v 7] := by
  match v, h with
  | [_, _, _, _, _, _, _, _], _ => rfl
theorem addW_zero (v : List UInt32) (s : St) (h : v.length = 8) : addW v s 0 = v := by
  match v, h with
  | [_, _, _, _, _, _, _, _], _ => rfl
theorem addW_set (v : List UInt32) (s : St) (m : Nat) (hm : m < 8) : (addW v s m).set m (g32 v m + g32 s.list m) = addW v s (m + 1) := by
  have h : m = 0 ∨ m = 1 ∨ m = 2 ∨ m = 3 ∨ m = 4 ∨ m = 5 ∨ m = 6 ∨ m = 7 := by omega
  rcases h with rfl | rfl | rfl | rfl | rfl | rfl | rfl | rfl <;> rfl
theorem addW_get (v : List UInt32) (s : St) (m : Nat) (hm : m < 8) : g32 (addW v s m) m = g32 v m := by
  have h : m = 0 ∨ m = 1 ∨ m = 2 ∨ m = 3 ∨ m = 4 ∨ m = 5 ∨ m = 6 ∨ m = 7 := by omega
  rcases h with rfl | rfl | rfl | rfl | rfl | rfl | rfl | rfl <;> rfl
end Go.Xr
