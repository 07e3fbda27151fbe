/- Plain laws, part S: rows of tests, of events, of signals moved, compared, marked, held; the laws of wheels and levers. Conditions: none. -/
import Derived.Test.YtjkaapoklbhokaaDoorPlR
set_option linter.all false
namespace Go.Prg
open Go.Eng

theorem bnev_e (a b : Bool) : bnev a b = decide (¬ a = b) := by cases a <;> cases b <;> rfl
theorem pair_eta {α β : Type} (p : α × β) : (p.1, p.2) = p := rfl
theorem set_self {α : Type} {l : List α} {k : Nat} {x d : α} (h : k < l.length) : (l.set k x).getD k d = x := by rw [set_get h]; simp

/-- f k, f (k + s), .. -/
def cnt {α : Type} (f : Int → α) (s : Int) : Int → Nat → List α
  | _, 0 => []
  | k, n + 1 => f k :: cnt f s (k + s) n

theorem cnt_len {α : Type} (f : Int → α) (s : Int) : ∀ (k : Int) (n : Nat), (cnt f s k n).length = n
  | _, 0 => rfl
  | k, n + 1 => by simp [cnt, cnt_len f s (k + s) n]
theorem cnt_get {α : Type} (f : Int → α) (s : Int) (d : α) : ∀ (n : Nat) (k : Int) (i : Nat), i < n → (cnt f s k n).getD i d = f (k + s * i)
  | n + 1, k, 0, _ => by simp [cnt]
  | n + 1, k, i + 1, h => by
    have := cnt_get f s d n (k + s) i (by omega)
    simp only [cnt, List.getD_cons_succ, this]
    congr 1
    rw [show ((i + 1 : Nat) : Int) = (i : Int) + 1 by omega, Int.mul_add]
    omega
theorem cnt_succ {α : Type} (f : Int → α) (s : Int) : ∀ (k : Int) (n : Nat), cnt f s k (n + 1) = cnt f s k n ++ [f (k + s * n)]
  | k, 0 => by simp [cnt]
  | k, n + 1 => by
    rw [cnt, cnt_succ f s (k + s) n]
    simp only [cnt, List.cons_append]
    congr 3
    rw [show ((n + 1 : Nat) : Int) = (n : Int) + 1 by omega, Int.mul_add]
    congr 1
    omega

def f_BoolS (k : Int) : Bool := decide (k.tmod 3 = 0)

def f_CarryEventS (k : Int) : Ev := (k, (k + 1, k + 1 + 1))

def f_SignalS (k : Int) : (Bool × Bool) := (decide (k.tmod 3 = 0), decide ((k + 1).tmod 3 = 0))

end Go.Prg
