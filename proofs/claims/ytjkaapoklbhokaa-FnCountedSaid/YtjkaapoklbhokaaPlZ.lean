/- Plain laws, part Z: the longest run of levers. Conditions: none. -/
import Derived.Test.YtjkaapoklbhokaaPlT
set_option linter.all false
namespace Go.Prg
open Go.Eng

/-- the run and the longest run up to a lever: t are the levers cocked by the wheels, c all of them -/
def rip (t c : List Bool) : Nat → Int × Int
  | 0 => (0, 0)
  | k + 1 => (if t.getD k false = true then 1 else if c.getD k false = true then (rip t c k).1 + 1 else 0, imax (rip t c k).2 (if t.getD k false = true then 1 else if c.getD k false = true then (rip t c k).1 + 1 else 0))

theorem rip_in (t c : List Bool) : ∀ k, (0 ≤ (rip t c k).1 ∧ (rip t c k).1 ≤ k) ∧ (0 ≤ (rip t c k).2 ∧ (rip t c k).2 ≤ k)
  | 0 => by simp [rip]
  | k + 1 => by
    have ih := rip_in t c k
    simp only [rip, imax]
    split
    · split <;> omega
    · split
      · split <;> omega
      · split <;> omega

/-- which levers are cocked by a push -/
theorem secS_by (w : Int) (l m : List Int) (hw : 2 ≤ w ∧ w ≤ 16) (hdl : digitsOk w l) (hdm : digitsOk w m) (he : l.length = m.length) (e : List Ev) : ∀ k,
    (∀ j, j < l.length → (secS w (turnD w l m l.length) (turnC w l m l.length) (falses l.length) e k).2.2.1.getD j false = ((secS w (turnD w l m l.length) (turnC w l m l.length) (falses l.length) e k).2.1.getD j false && !(turnC w l m l.length).getD j false)) ∧
    (∀ j, k < j → j < l.length → (secS w (turnD w l m l.length) (turnC w l m l.length) (falses l.length) e k).1.getD j 0 = (turnD w l m l.length).getD j 0 ∧ (secS w (turnD w l m l.length) (turnC w l m l.length) (falses l.length) e k).2.1.getD j false = (turnC w l m l.length).getD j false) ∧
    (∀ j, (turnC w l m l.length).getD j false = true → (secS w (turnD w l m l.length) (turnC w l m l.length) (falses l.length) e k).2.1.getD j false = true)
  | 0 => by
    refine ⟨fun j hj => ?_, fun j _ _ => ⟨rfl, rfl⟩, fun j h => h⟩
    simp only [secS]
    have : (falses l.length).getD j false = false := by simp [List.getD_eq_getElem?_getD, List.getElem?_replicate]; split <;> rfl
    rw [this]
    cases (turnC w l m l.length).getD j false <;> rfl
  | k + 1 => by
    obtain ⟨hA, hB, hC⟩ := secS_by w l m hw hdl hdm he e k
    obtain ⟨l1, l2, l3, _⟩ := secS_len w (turnD w l m l.length) (turnC w l m l.length) (falses l.length) e k
    rw [turnD_len] at l1
    rw [turnC_len] at l2
    rw [List.length_replicate] at l3
    have lc := turnC_len w l m l.length
    simp only [secS]
    split
    · split
      · rename_i hk
        rw [lc] at hk
        obtain ⟨b1, b2⟩ := hB (k + 1) (by omega) hk
        split
        · rename_i hq
          have hnot : (turnC w l m l.length).getD (k + 1) false = false := by
            rw [b1, turnD_get w l m hk] at hq
            rw [turnC_get w l m hk]
            have h1 := getD_all (p := fun d => 0 ≤ d ∧ d ≤ w - 1) hdl (i := k + 1) (by omega)
            have h2 := getD_all (p := fun d => 0 ≤ d ∧ d ≤ w - 1) hdm (i := k + 1) (by omega)
            rw [tmod_two hw.1 (by omega) (by omega)] at hq
            split at hq
            · omega
            · exact decide_eq_false (by assumption)
          refine ⟨fun j hj => ?_, fun j h1 h2 => ?_, fun j h => ?_⟩
          · simp only
            rw [set_get (by omega), set_get (by omega)]
            by_cases hj2 : j = k + 1
            · subst hj2; rw [if_pos rfl, if_pos rfl, hnot]; rfl
            · rw [if_neg hj2, if_neg hj2]; exact hA j hj
          · simp only
            rw [set_get (by omega), set_get (by omega), if_neg (by omega), if_neg (by omega)]
            exact hB j (by omega) h2
          · simp only
            rw [set_get (by omega)]
            split
            · rfl
            · exact hC j h
        · refine ⟨hA, fun j h1 h2 => ?_, hC⟩
          simp only
          rw [set_get (by omega), if_neg (by omega)]
          exact hB j (by omega) h2
      · exact ⟨hA, fun j h1 h2 => hB j (by omega) h2, hC⟩
    · exact ⟨hA, fun j h1 h2 => hB j (by omega) h2, hC⟩

def rippleR (a b : Reg) : Int × Int := if pairC a b = 0 then ((rip (turnC a.1 a.2 b.2 a.2.length) (levL a.1 a.2 b.2) a.2.length).2, 0) else (0, pairC a b)

end Go.Prg
