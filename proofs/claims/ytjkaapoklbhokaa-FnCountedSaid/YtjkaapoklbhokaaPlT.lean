/- Plain laws, part T: the laws of wheels, levers, pushes, runs. Conditions: none. -/
import Derived.Test.YtjkaapoklbhokaaPlS
set_option linter.all false
namespace Go.Prg
open Go.Eng

/-- the signals of all digits -/
def sigL (w : Int) (l m : List Int) (n : Nat) : List (Bool × Bool) := (List.range n).map fun i => (decide (w ≤ l.getD i 0 + m.getD i 0), decide (l.getD i 0 + m.getD i 0 = w - 1))
theorem sigL_len (w : Int) (l m : List Int) (n : Nat) : (sigL w l m n).length = n := by simp [sigL]
theorem sigL_succ (w : Int) (l m : List Int) (n : Nat) : sigL w l m (n + 1) = sigL w l m n ++ [(decide (w ≤ l.getD n 0 + m.getD n 0), decide (l.getD n 0 + m.getD n 0 = w - 1))] := by
  simp only [sigL]; rw [List.range_succ, List.map_append]; rfl

def signalsR (a b : Reg) : List (Bool × Bool) × Int := if pairC a b = 0 then (sigL a.1 a.2 b.2 a.2.length, 0) else ([], pairC a b)

theorem signalsR_len (a b : Reg) : ((signalsR a b).1.length : Int) ≤ 16 := by
  unfold signalsR
  split
  · rename_i h
    obtain ⟨w, l, m, rfl, rfl, hw, hl, he, hdl, hdm⟩ := pair_parts h
    simp only [sigL_len]; omega
  · simp

/- levers that stay -/
theorem pushS_stay (w : Int) (d : List Int) (c : List Bool) : ∀ (n k : Nat), k ≤ n → (pushS w d c n).2.getD k false = (pushS w d c k).2.getD k false
  | 0, k, h => by
    have : k = 0 := by omega
    subst this; rfl
  | n + 1, k, h => by
    by_cases hk : k = n + 1
    · subst hk; rfl
    · have ih := pushS_stay w d c n k (by omega)
      obtain ⟨l1, l2⟩ := pushS_len w d c n
      rw [← ih]
      simp only [pushS]
      split
      · rename_i hc
        split
        · simp only
          rw [set_get (by omega), if_neg (by omega)]
        · rfl
      · rfl

/-- how many levers of the first n are cocked -/
def cntT (c : List Bool) : Nat → Int
  | 0 => 0
  | i + 1 => if c.getD i false = true then cntT c i + 1 else cntT c i
/-- how many events of the first n are pushes -/
def cntP (e : List Ev) : Nat → Int
  | 0 => 0
  | i + 1 => if (e.getD i (0, (0, 0))).1 = 3 then cntP e i + 1 else cntP e i

theorem cntT_in (c : List Bool) : ∀ i, 0 ≤ cntT c i ∧ cntT c i ≤ i
  | 0 => by simp [cntT]
  | i + 1 => by
    have := cntT_in c i
    simp only [cntT]
    split <;> omega
theorem cntP_in (e : List Ev) : ∀ i, 0 ≤ cntP e i ∧ cntP e i ≤ i
  | 0 => by simp [cntP]
  | i + 1 => by
    have := cntP_in e i
    simp only [cntP]
    split <;> omega

theorem cntP_app (e e' : List Ev) : ∀ i, i ≤ e.length → cntP (e ++ e') i = cntP e i
  | 0, _ => rfl
  | i + 1, h => by
    have ih := cntP_app e e' i (by omega)
    have hg : (e ++ e').getD i (0, (0, 0)) = e.getD i (0, (0, 0)) := by
      rw [List.getD_eq_getElem?_getD, List.getD_eq_getElem?_getD, List.getElem?_append_left (by omega)]
    simp only [cntP, ih, hg]

theorem cntP_one (e : List Ev) (x : Ev) : cntP (e ++ [x]) (e ++ [x]).length = cntP e e.length + (if x.1 = 3 then 1 else 0) := by
  rw [List.length_append, List.length_cons, List.length_nil]
  simp only [cntP]
  rw [cntP_app e [x] e.length (Nat.le_refl _), mid_get rfl]
  simp only [List.getD_cons_zero]
  split <;> omega

theorem evF_cnt (w : Int) (l m : List Int) : ∀ k, cntP (evF w l m k) (evF w l m k).length = 0
  | 0 => rfl
  | k + 1 => by
    have ih := evF_cnt w l m k
    simp only [evF]
    split
    · split
      · rw [cntP_one, cntP_one, ih]; simp
      · rw [cntP_one, ih]; simp
    · exact ih

theorem secS_cnt {w : Int} (hw : 2 ≤ w) {d : List Int} (hd : digitsOk w d) (c b : List Bool) (e : List Ev) (he : d.length = c.length) (h0 : cntP e e.length = 0) (C : List Bool) : ∀ k, (∀ j, j < k → C.getD j false = (pushS w d c j).2.getD j false) →
    cntP (secS w d c b e k).2.2.2 (secS w d c b e k).2.2.2.length = cntT C k
  | 0, _ => by simpa [secS, cntT] using h0
  | k + 1, hC => by
    have ih := secS_cnt hw hd c b e he h0 C k (fun j hj => hC j (by omega))
    obtain ⟨p1, p2⟩ := secS_push hw hd c b e he k
    have hk := hC k (by omega)
    simp only [secS, cntT, hk, p2]
    split
    · split
      · split
        · simp only
          rw [cntP_one, cntP_one, ih]; simp
        · simp only
          rw [cntP_one, ih]; simp
      · simp only
        rw [cntP_one, ih]; simp
    · exact ih

/-- the levers in the end -/
def levL (w : Int) (l m : List Int) : List Bool := (pushS w (turnD w l m l.length) (turnC w l m l.length) l.length).2

theorem levL_len (w : Int) (l m : List Int) : (levL w l m).length = l.length := by
  unfold levL
  rw [(pushS_len _ _ _ _).2, turnC_len]

def pushesR (a b : Reg) : Int × Int := if pairC a b = 0 then (cntT (levL a.1 a.2 b.2) a.2.length, 0) else (0, pairC a b)

theorem i_levers (w : Int) (l m : List Int) (hw : 2 ≤ w ∧ w ≤ 16) (hdl : digitsOk w l) (hdm : digitsOk w m) (he : l.length = m.length) (hn : l.length ≤ 16) :
    F_i_pushed ((w, turnD w l m l.length), turnC w l m l.length) = some ((w, (pushS w (turnD w l m l.length) (turnC w l m l.length) l.length).1), levL w l m) := by
  have l1 := turnD_len w l m l.length
  have l2 := turnC_len w l m l.length
  have hp := i_pushed w (turnD w l m l.length) (turnC w l m l.length) hw (turnD_ok hw.1 hdl hdm (by omega) (by omega)) (by omega) (by omega)
  rw [l2] at hp
  exact hp

end Go.Prg
