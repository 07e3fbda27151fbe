/- Plain laws, part R: wheels turned, levers pushed. Conditions: none. -/
import Derived.Test.YtjkaapoklbhokaaDoorPlQ
set_option linter.all false
namespace Go.Prg
open Go.Eng

abbrev Ev := Int × Int × Int

section mid
variable {α : Type} {A l : List α} {k n : Nat} {x d : α}
theorem mid_get (hA : A.length = k) : (A ++ l).getD k d = l.getD 0 d := by
  rw [List.getD_eq_getElem?_getD, List.getD_eq_getElem?_getD, List.getElem?_append_right (by omega), hA, Nat.sub_self]
theorem mid_drop (hA : A.length = k) (hk : k < l.length) : (A ++ l.drop k).getD k d = l.getD k d := by
  rw [mid_get hA, List.getD_eq_getElem?_getD, List.getD_eq_getElem?_getD, List.getElem?_drop, Nat.add_zero]
theorem mid_set (hA : A.length = k) (hk : k < l.length) : (A ++ l.drop k).set k x = A ++ [x] ++ l.drop (k + 1) := by
  rw [List.set_append_right _ _ (by omega), hA, Nat.sub_self, List.drop_eq_getElem_cons hk, List.set_cons_zero, List.append_assoc]
  rfl
theorem mid_rep (hA : A.length = k) (hk : k < n) : (A ++ List.replicate (n - k) d).set k x = A ++ [x] ++ List.replicate (n - (k + 1)) d := by
  rw [List.set_append_right _ _ (by omega), hA, Nat.sub_self, show n - k = (n - (k + 1)) + 1 by omega, List.replicate_succ, List.set_cons_zero, List.append_assoc]
  rfl
theorem rep_step (hk : k < n) : A ++ List.replicate (n - k) d = A ++ [d] ++ List.replicate (n - (k + 1)) d := by
  rw [show n - k = (n - (k + 1)) + 1 by omega, List.replicate_succ, List.append_assoc]
  rfl
theorem drop_step (hk : k < l.length) : A ++ l.drop k = A ++ [l.getD k d] ++ l.drop (k + 1) := by
  rw [List.drop_eq_getElem_cons hk, List.append_assoc, getD_lt hk]
  rfl
theorem set_rep : (List.replicate n d).set k d = List.replicate n d := by
  apply List.ext_getElem?
  intro i
  rw [List.getElem?_set]
  split
  · rename_i h; subst h; simp [List.getElem?_replicate]
  · rfl
theorem set_get {i : Nat} (hk : k < l.length) : (l.set k x).getD i d = if i = k then x else l.getD i d := by
  rw [List.getD_eq_getElem?_getD, List.getD_eq_getElem?_getD, List.getElem?_set]
  by_cases h : k = i
  · subst h; simp [hk]
  · simp [h, Ne.symm h]
end mid

/-- the wheels after they have been turned -/
def turnD (w : Int) (l m : List Int) (n : Nat) : List Int := (List.range n).map fun i => (l.getD i 0 + m.getD i 0).tmod w
/-- the levers that are cocked then -/
def turnC (w : Int) (l m : List Int) (n : Nat) : List Bool := (List.range n).map fun i => decide (w ≤ l.getD i 0 + m.getD i 0)

theorem turnD_len (w : Int) (l m : List Int) (n : Nat) : (turnD w l m n).length = n := by simp [turnD]
theorem turnC_len (w : Int) (l m : List Int) (n : Nat) : (turnC w l m n).length = n := by simp [turnC]
theorem turnD_succ (w : Int) (l m : List Int) (n : Nat) : turnD w l m (n + 1) = turnD w l m n ++ [(l.getD n 0 + m.getD n 0).tmod w] := by
  simp only [turnD]; rw [List.range_succ, List.map_append]; rfl
theorem turnC_succ (w : Int) (l m : List Int) (n : Nat) : turnC w l m (n + 1) = turnC w l m n ++ [decide (w ≤ l.getD n 0 + m.getD n 0)] := by
  simp only [turnC]; rw [List.range_succ, List.map_append]; rfl
theorem turnD_get (w : Int) (l m : List Int) {n i : Nat} (h : i < n) : (turnD w l m n).getD i 0 = (l.getD i 0 + m.getD i 0).tmod w := by
  simp [turnD, List.getD_eq_getElem?_getD, h]
theorem turnC_get (w : Int) (l m : List Int) {n i : Nat} (h : i < n) : (turnC w l m n).getD i false = decide (w ≤ l.getD i 0 + m.getD i 0) := by
  simp [turnC, List.getD_eq_getElem?_getD, h]

theorem tmod_two {w x : Int} (hw : 2 ≤ w) (h0 : 0 ≤ x) (h1 : x ≤ 2 * (w - 1)) : x.tmod w = if w ≤ x then x - w else x := by
  rw [Int.tmod_eq_emod_of_nonneg h0]
  split
  · rw [← Int.sub_emod_right, Int.emod_eq_of_lt (by omega) (by omega)]
  · exact Int.emod_eq_of_lt h0 (by omega)

theorem turnD_ok {w : Int} (hw : 2 ≤ w) {l m : List Int} (hl : digitsOk w l) (hm : digitsOk w m) {n : Nat} (h1 : n ≤ l.length) (h2 : n ≤ m.length) : digitsOk w (turnD w l m n) := by
  intro d hd
  simp only [turnD, List.mem_map, List.mem_range] at hd
  obtain ⟨i, hi, rfl⟩ := hd
  have a1 := getD_all (p := fun d => 0 ≤ d ∧ d ≤ w - 1) hl (i := i) (by omega)
  have a2 := getD_all (p := fun d => 0 ≤ d ∧ d ≤ w - 1) hm (i := i) (by omega)
  rw [tmod_two hw (by omega) (by omega)]
  split <;> omega

/-- the wheels and the levers after the levers 0 .. k - 1 have been pushed -/
def pushS (w : Int) (d : List Int) (c : List Bool) : Nat → List Int × List Bool
  | 0 => (d, c)
  | k + 1 => if (pushS w d c k).2.getD k false = true ∧ k + 1 < c.length then
      if (pushS w d c k).1.getD (k + 1) 0 + 1 = w then ((pushS w d c k).1.set (k + 1) 0, (pushS w d c k).2.set (k + 1) true) else ((pushS w d c k).1.set (k + 1) ((pushS w d c k).1.getD (k + 1) 0 + 1), (pushS w d c k).2)
    else pushS w d c k

theorem pushS_len (w : Int) (d : List Int) (c : List Bool) : ∀ k, (pushS w d c k).1.length = d.length ∧ (pushS w d c k).2.length = c.length
  | 0 => ⟨rfl, rfl⟩
  | k + 1 => by
    have ih := pushS_len w d c k
    simp only [pushS]
    split
    · split <;> simp [ih.1, ih.2]
    · exact ih

theorem pushS_ok {w : Int} (hw : 2 ≤ w) {d : List Int} (hd : digitsOk w d) (c : List Bool) (he : d.length = c.length) : ∀ k, digitsOk w (pushS w d c k).1
  | 0 => hd
  | k + 1 => by
    have ih := pushS_ok hw hd c he k
    have hl := pushS_len w d c k
    simp only [pushS]
    split
    · rename_i hc
      have g := getD_all (p := fun d => 0 ≤ d ∧ d ≤ w - 1) ih (i := k + 1) (by omega)
      split
      · exact mem_set_all ih (by omega)
      · exact mem_set_all ih (by omega)
    · exact ih

/- the reference's way -/
/-- what happens while the wheels 0 .. k - 1 are turned -/
def evF (w : Int) (l m : List Int) : Nat → List Ev
  | 0 => []
  | k + 1 => if 0 < m.getD k 0 then if w ≤ l.getD k 0 + m.getD k 0 then evF w l m k ++ [(1, (k : Int), m.getD k 0)] ++ [(2, (k : Int), 0)] else evF w l m k ++ [(1, (k : Int), m.getD k 0)] else evF w l m k

theorem evF_len (w : Int) (l m : List Int) : ∀ k, (evF w l m k).length ≤ 2 * k
  | 0 => by simp [evF]
  | k + 1 => by
    have ih := evF_len w l m k
    simp only [evF]
    split
    · split <;> simp <;> omega
    · omega

abbrev falses (n : Nat) : List Bool := List.replicate n false

/-- the reference's state while the levers are pushed -/
def secS (w : Int) (d : List Int) (c b : List Bool) (e : List Ev) : Nat → List Int × List Bool × List Bool × List Ev
  | 0 => (d, c, b, e)
  | k + 1 => if (secS w d c b e k).2.1.getD k false = true then
      if k + 1 < c.length then
        if w ≤ (secS w d c b e k).1.getD (k + 1) 0 + 1 then ((secS w d c b e k).1.set (k + 1) ((secS w d c b e k).1.getD (k + 1) 0 + 1 - w), (secS w d c b e k).2.1.set (k + 1) true, (secS w d c b e k).2.2.1.set (k + 1) true, (secS w d c b e k).2.2.2 ++ [(3, (k : Int), 0)] ++ [(2, ((k : Int) + 1), 0)])
        else ((secS w d c b e k).1.set (k + 1) ((secS w d c b e k).1.getD (k + 1) 0 + 1), (secS w d c b e k).2.1, (secS w d c b e k).2.2.1, (secS w d c b e k).2.2.2 ++ [(3, (k : Int), 0)])
      else ((secS w d c b e k).1, (secS w d c b e k).2.1, (secS w d c b e k).2.2.1, (secS w d c b e k).2.2.2 ++ [(3, (k : Int), 0)])
    else secS w d c b e k

theorem secS_push {w : Int} (hw : 2 ≤ w) {d : List Int} (hd : digitsOk w d) (c b : List Bool) (e : List Ev) (he : d.length = c.length) : ∀ k, (secS w d c b e k).1 = (pushS w d c k).1 ∧ (secS w d c b e k).2.1 = (pushS w d c k).2
  | 0 => ⟨rfl, rfl⟩
  | k + 1 => by
    obtain ⟨i1, i2⟩ := secS_push hw hd c b e he k
    have hok := pushS_ok hw hd c he k
    have hl := pushS_len w d c k
    simp only [secS, pushS, i1, i2]
    by_cases hc : (pushS w d c k).2.getD k false = true
    · rw [if_pos hc]
      by_cases hk : k + 1 < c.length
      · have g := getD_all (p := fun d => 0 ≤ d ∧ d ≤ w - 1) hok (i := k + 1) (by omega)
        have hck : (pushS w d c k).2.getD k false = true ∧ k + 1 < c.length := ⟨hc, hk⟩
        rw [if_pos hk, if_pos hck]
        by_cases hq : w ≤ (pushS w d c k).1.getD (k + 1) 0 + 1
        · have hq2 : (pushS w d c k).1.getD (k + 1) 0 + 1 = w := by omega
          rw [if_pos hq, if_pos hq2]
          refine ⟨?_, rfl⟩
          simp only
          congr 1
          omega
        · rw [if_neg hq, if_neg (by omega)]
          exact ⟨rfl, rfl⟩
      · rw [if_neg hk, if_neg (fun h => hk h.2)]
        exact ⟨rfl, rfl⟩
    · rw [if_neg hc, if_neg (fun h => hc h.1)]
      exact ⟨i1, i2⟩

theorem secS_len (w : Int) (d : List Int) (c b : List Bool) (e : List Ev) : ∀ k, (secS w d c b e k).1.length = d.length ∧ (secS w d c b e k).2.1.length = c.length ∧ (secS w d c b e k).2.2.1.length = b.length ∧ (secS w d c b e k).2.2.2.length ≤ e.length + 2 * k
  | 0 => by simp [secS]
  | k + 1 => by
    obtain ⟨h1, h2, h3, h4⟩ := secS_len w d c b e k
    simp only [secS]
    split
    · split
      · split
        · simp [h1, h2, h3]; omega
        · simp [h1, h2, h3]; omega
      · simp [h1, h2, h3]; omega
    · simp [h1, h2, h3]; omega

/-- the reference's whole addition -/
def runS (w : Int) (l m : List Int) : List Int × List Bool × List Bool × List Ev := secS w (turnD w l m l.length) (turnC w l m l.length) (falses l.length) (evF w l m l.length) l.length

/- laws -/
def wheelsR (a b : Reg) : Reg × List Bool × Int :=
  if pairC a b = 0 then cond (validR (a.1, turnD a.1 a.2 b.2 a.2.length)) ((a.1, turnD a.1 a.2 b.2 a.2.length), turnC a.1 a.2 b.2 a.2.length, 0) (zeroR, [], 5) else (zeroR, [], pairC a b)

theorem wheelsR_len (a b : Reg) : ((wheelsR a b).1.2.length : Int) ≤ 16 ∧ ((wheelsR a b).2.1.length : Int) ≤ 16 := by
  unfold wheelsR
  split
  · rename_i h
    obtain ⟨w, l, m, rfl, rfl, hw, hl, he, hdl, hdm⟩ := pair_parts h
    cases validR (w, turnD w l m l.length)
    · simp
    · simp only [cond_t, turnD_len, turnC_len]; omega
  · simp

def pushR (r : Reg) (c : List Bool) : Reg × Int × Int :=
  cond (validR r) (if c.length = r.2.length then wholeR (r.1, (pushS r.1 r.2 c c.length).1) (if (pushS r.1 r.2 c c.length).2.getD (c.length - 1) false = true then 1 else 0) else (zeroR, 0, 8)) (zeroR, 0, 1)

theorem pushR_len (r : Reg) (c : List Bool) : ((pushR r c).1.2.length : Int) ≤ 16 := by
  unfold pushR
  cases validR r
  · simp
  · simp only [cond_t]
    split
    · exact wholeR_len _ _
    · simp

def slowR (a b : Reg) : Reg × Int × Int :=
  if pairC a b = 0 then wholeR (a.1, (pushS a.1 (turnD a.1 a.2 b.2 a.2.length) (turnC a.1 a.2 b.2 a.2.length) a.2.length).1) (if (pushS a.1 (turnD a.1 a.2 b.2 a.2.length) (turnC a.1 a.2 b.2 a.2.length) a.2.length).2.getD (a.2.length - 1) false = true then 1 else 0) else (zeroR, 0, pairC a b)

theorem slowR_len (a b : Reg) : ((slowR a b).1.2.length : Int) ≤ 16 := by
  unfold slowR
  split
  · exact wholeR_len _ _
  · simp

end Go.Prg
