/- The engine, part 18: a region that draws the order of its operations: if no two operations meet whose order is open, every order does what the text's order does. Conditions as in part 17. -/
import Derived.Test.YtjkaapoklbhokaaDoorEng17
import Derived.Still
set_option linter.all false
namespace Go.Eng
open Go.RowKit

variable {P : Program} {C : Ctx}
variable {n : Nat} {gh : Nat → Value} {w0 : World} {S0 : List Nat} {R0 : Nat → Prop} {s : St} {a : Act} {w : World}

/-- One operation of the region on the way in the text's order. -/
structure Step where
  sl : Nat → AV
  bk : Nat → Blk
  nx : Nat
  rc : Rec
  eff : Eff
  run : Bool

def Step.ok (P : Program) (ops : Array Oper) (st : Step) (o : Oper) : Prop :=
  st.rc.dst = o.dst ∧ st.rc.ids = st.eff.ids ∧
  (st.run = true → OpSound P o (maskS st.rc.slots st.sl) (maskB st.rc.foot st.bk) st.nx st.eff ∧ ∀ i ∈ st.eff.ids, i ∈ st.rc.foot ∨ st.nx ≤ i) ∧
  (st.run = false → st.eff = ⟨.tup [], []⟩) ∧
  (∀ p q, st.rc.put = some (p, q) → st.run = true ∧ ∃ m l, st.eff = ⟨.tup [], [(m, .mp true true (mputR l p q))]⟩ ∧ st.bk m = .mp true true l ∧ m < st.nx ∧
    ∀ (bk' : Nat → Blk) (l' : List (Int × Int)), bk' m = .mp true true l' → OpSound P o (maskS st.rc.slots st.sl) bk' st.nx ⟨.tup [], [(m, .mp true true (mputR l' p q))]⟩) ∧
  ((o.guard = none ∧ st.run = true) ∨ ∃ j want d, o.guard = some (j, want) ∧ (ops[j]?).bind (·.dst) = some d ∧ d ∈ st.rc.slots ∧ ((∃ b, st.sl d = scB b ∧ st.run = (b == want)) ∨ (st.sl d = .tup [] ∧ st.run = false)))

def putB (p q : Int) : Blk → Blk
  | .mp nn own l => .mp nn own (mputR l p q)
  | b => b
/-- What an operation leaves in the blocks, whatever they hold. -/
def updS (st : Step) (f : Nat → Blk) : Nat → Blk :=
  match st.rc.put with
  | none => updBk st.eff.upd f
  | some (p, q) => fun i => if i ∈ st.eff.upd.map (·.1) then putB p q (f i) else f i

theorem updS_not {st : Step} {f : Nat → Blk} {t : Nat} (h : t ∉ st.eff.upd.map (·.1)) : updS st f t = f t := by
  cases hp : st.rc.put with
  | none => simp only [updS, hp]; exact updBk_not h
  | some z => simp only [updS, hp]; rw [if_neg h]
theorem updS_same {st : Step} {f g : Nat → Blk} {t : Nat} (h : f t = g t) : updS st f t = updS st g t := by
  cases hp : st.rc.put with
  | none =>
    simp only [updS, hp]
    by_cases hm : t ∈ st.eff.upd.map (·.1)
    · exact updBk_mem hm
    · rw [updBk_not hm, updBk_not hm]; exact h
  | some z => simp only [updS, hp, h]
theorem putB_comm {p q p' q' : Int} (h : p ≠ p') (b : Blk) : putB p q (putB p' q' b) = putB p' q' (putB p q b) := by
  cases b <;> simp only [putB]
  rw [mput_comm (Ne.symm h)]
theorem updS_comm {st st' : Step} {f : Nat → Blk} (h : (∀ i ∈ st.eff.upd.map (·.1), i ∉ st'.eff.upd.map (·.1)) ∨ ∃ p q p' q', st.rc.put = some (p, q) ∧ st'.rc.put = some (p', q') ∧ p ≠ p') : updS st (updS st' f) = updS st' (updS st f) := by
  funext i
  rcases h with h | ⟨p, q, p', q', h1, h2, h3⟩
  · by_cases h1 : i ∈ st.eff.upd.map (·.1)
    · rw [updS_not (st := st') (h i h1)]
      exact updS_same (updS_not (h i h1))
    · rw [updS_not h1]
      exact updS_same (updS_not h1).symm
  · simp only [updS, h1, h2]
    by_cases a : i ∈ st.eff.upd.map (·.1) <;> by_cases b : i ∈ st'.eff.upd.map (·.1) <;> simp only [a, b, if_true, if_false]
    exact putB_comm h3 _

def Chain (P : Program) (n : Nat) (ops : Array Oper) : List Step → List Oper → (Nat → AV) → (Nat → Blk) → Nat → (Nat → AV) → (Nat → Blk) → Nat → Prop
  | [], [], sl, bk, nx, sl', bk', nx' => sl = sl' ∧ bk = bk' ∧ nx = nx'
  | st :: r, o :: l, sl, bk, nx, sl', bk', nx' => st.sl = sl ∧ st.bk = bk ∧ st.nx = nx ∧ st.ok P ops o ∧ ∃ nx1, nx ≤ nx1 ∧ (∀ i ∈ st.eff.ids, i < nx1) ∧
      Chain P n ops r l (updSl n st.rc.dst st.eff.val sl) (updS st bk) nx1 sl' bk' nx'
  | _, _, _, _, _, _, _, _ => False

def slL (n : Nat) (L : Nat → Bool) : List Step → Nat → (Nat → AV) → Nat → AV
  | [], _, f => f
  | st :: r, i, f => slL n L r (i + 1) (if L i = true then updSl n st.rc.dst st.eff.val f else f)
def bkL (L : Nat → Bool) : List Step → Nat → (Nat → Blk) → Nat → Blk
  | [], _, f => f
  | st :: r, i, f => bkL L r (i + 1) (if L i = true then updS st f else f)

theorem slL_skip {L : Nat → Bool} {t : Nat} : ∀ {l : List Step} {i : Nat} {f : Nat → AV}, (∀ (j : Nat) (st : Step), l[j]? = some st → st.rc.dst = some t → L (i + j) = false) → slL n L l i f t = f t
  | [], _, _, _ => rfl
  | st :: r, i, f, h => by
    simp only [slL]
    rw [slL_skip (l := r) (i := i + 1) fun j st' hj hd => by rw [show i + 1 + j = i + (j + 1) from by omega]; exact h (j + 1) st' (by simpa using hj) hd]
    split
    · rename_i hL
      cases hd : st.rc.dst with
      | none => rfl
      | some d =>
        simp only [updSl]
        rw [if_neg]
        rintro ⟨rfl, _⟩
        have := h 0 st rfl hd
        rw [Nat.add_zero] at this
        rw [this] at hL; cases hL
    · rfl

theorem bkL_skip {L : Nat → Bool} {t : Nat} : ∀ {l : List Step} {i : Nat} {f : Nat → Blk}, (∀ (j : Nat) (st : Step), l[j]? = some st → t ∈ st.eff.ids → L (i + j) = false) → bkL L l i f t = f t
  | [], _, _, _ => rfl
  | st :: r, i, f, h => by
    simp only [bkL]
    rw [bkL_skip (l := r) (i := i + 1) fun j st' hj hd => by rw [show i + 1 + j = i + (j + 1) from by omega]; exact h (j + 1) st' (by simpa using hj) hd]
    split
    · rename_i hL
      refine updS_not fun hm => ?_
      have := h 0 st rfl hm
      rw [Nat.add_zero] at this
      rw [this] at hL; cases hL
    · rfl

theorem slL_app {L : Nat → Bool} : ∀ {l m : List Step} {i : Nat} {f : Nat → AV}, slL n L (l ++ m) i f = slL n L m (i + l.length) (slL n L l i f)
  | [], _, _, _ => rfl
  | st :: r, m, i, f => by
    simp only [List.cons_append, slL, List.length_cons]
    rw [slL_app, show i + (r.length + 1) = i + 1 + r.length from by omega]
theorem bkL_app {L : Nat → Bool} : ∀ {l m : List Step} {i : Nat} {f : Nat → Blk}, bkL L (l ++ m) i f = bkL L m (i + l.length) (bkL L l i f)
  | [], _, _, _ => rfl
  | st :: r, m, i, f => by
    simp only [List.cons_append, bkL, List.length_cons]
    rw [bkL_app, show i + (r.length + 1) = i + 1 + r.length from by omega]

theorem slL_congr {L L' : Nat → Bool} : ∀ {l : List Step} {i : Nat} {f : Nat → AV}, (∀ j, j < l.length → L (i + j) = L' (i + j)) → slL n L l i f = slL n L' l i f
  | [], _, _, _ => rfl
  | st :: r, i, f, h => by
    simp only [slL]
    rw [show L i = L' i from by simpa using h 0 (by simp)]
    exact slL_congr fun j hj => by rw [show i + 1 + j = i + (j + 1) from by omega]; exact h (j + 1) (by simpa using hj)
theorem bkL_congr {L L' : Nat → Bool} : ∀ {l : List Step} {i : Nat} {f : Nat → Blk}, (∀ j, j < l.length → L (i + j) = L' (i + j)) → bkL L l i f = bkL L' l i f
  | [], _, _, _ => rfl
  | st :: r, i, f, h => by
    simp only [bkL]
    rw [show L i = L' i from by simpa using h 0 (by simp)]
    exact bkL_congr fun j hj => by rw [show i + 1 + j = i + (j + 1) from by omega]; exact h (j + 1) (by simpa using hj)

theorem updSl_comm {d d' : Option Nat} {v v' : AV} {f : Nat → AV} (h : ∀ x, d = some x → d' ≠ some x) : updSl n d v (updSl n d' v' f) = updSl n d' v' (updSl n d v f) := by
  funext t
  cases d with
  | none => rfl
  | some x =>
    cases d' with
    | none => rfl
    | some y =>
      have hxy : x ≠ y := fun e => h x rfl (by rw [e])
      simp only [updSl]
      by_cases h1 : t = x
      · subst h1
        have h2 : ¬ (t = y ∧ y < n) := fun e => hxy e.1
        simp [h2]
      · have h2 : ¬ (t = x ∧ x < n) := fun e => h1 e.1
        simp [h2]

theorem updBk_comm {u u' : List (Nat × Blk)} {f : Nat → Blk} (h : ∀ i ∈ u.map (·.1), i ∉ u'.map (·.1)) : updBk u (updBk u' f) = updBk u' (updBk u f) := by
  funext i
  by_cases h1 : i ∈ u.map (·.1)
  · rw [updBk_not (l := u') (h i h1)]
    exact updBk_mem h1
  · rw [updBk_not h1]
    by_cases h2 : i ∈ u'.map (·.1)
    · exact updBk_mem h2
    · rw [updBk_not h2, updBk_not h2, updBk_not h1]

theorem slL_comm {L : Nat → Bool} {d : Option Nat} {v : AV} : ∀ {l : List Step} {i : Nat} {f : Nat → AV}, (∀ (j : Nat) (st : Step) (x : Nat), l[j]? = some st → d = some x → st.rc.dst = some x → L (i + j) = false) →
    slL n L l i (updSl n d v f) = updSl n d v (slL n L l i f)
  | [], _, _, _ => rfl
  | st :: r, i, f, h => by
    simp only [slL]
    have ih := fun g => slL_comm (L := L) (d := d) (v := v) (l := r) (i := i + 1) (f := g) fun j st' x hj hd hx => by rw [show i + 1 + j = i + (j + 1) from by omega]; exact h (j + 1) st' x (by simpa using hj) hd hx
    split
    · rename_i hL
      rw [← ih, updSl_comm]
      intro x hx hd
      have := h 0 st x rfl hd hx
      rw [Nat.add_zero] at this
      rw [this] at hL; cases hL
    · exact ih f

theorem bkL_comm {L : Nat → Bool} {s0 : Step} : ∀ {l : List Step} {i : Nat} {f : Nat → Blk}, (∀ (j : Nat) (st : Step), l[j]? = some st → L (i + j) = true → (∀ x ∈ s0.eff.upd.map (·.1), x ∉ st.eff.upd.map (·.1)) ∨ ∃ p q p' q', s0.rc.put = some (p, q) ∧ st.rc.put = some (p', q') ∧ p ≠ p') →
    bkL L l i (updS s0 f) = updS s0 (bkL L l i f)
  | [], _, _, _ => rfl
  | st :: r, i, f, h => by
    simp only [bkL]
    have ih := fun g => bkL_comm (L := L) (s0 := s0) (l := r) (i := i + 1) (f := g) fun j st' hj hL => h (j + 1) st' (by simpa using hj) (by rw [show i + (j + 1) = i + 1 + j from by omega]; exact hL)
    split
    · rename_i hL
      rw [← ih, updS_comm (st := s0) (st' := st) (h 0 st rfl (by simpa using hL))]
    · exact ih f

/-- An entry put into a map, whatever the map holds. -/
theorem opK_put {X : Type} {nx : Nat} {sl : Nat → AV} {bk : Nat → Blk} {o : Oper} {k : Eff → Option X} {d : X} {p q : Int} (hC : CtxOk P C) (hp : putOf sl o = some (p, q)) (h : opK C nx sl bk o k = some d) :
    ∃ id l, k ⟨.tup [], [(id, .mp true true (mputR l p q))]⟩ = some d ∧ bk id = .mp true true l ∧ ∀ (bk' : Nat → Blk) (l' : List (Int × Int)), bk' id = .mp true true l' → OpSound P o sl bk' nx ⟨.tup [], [(id, .mp true true (mputR l' p q))]⟩ := by
  unfold putOf at hp
  split at hp
  · rename_i T M X0 Y0 ho
    split at hp
    · rename_i p' q' hX hY
      simp only [Option.some.injEq, Prod.mk.injEq] at hp
      obtain ⟨rfl, rfl⟩ := hp
      unfold opK at h
      simp only [ho] at h
      unfold aop at h
      simp only [ho, hX, hY] at h
      split at h
      · rename_i ty K E b1 id a b hT hm hx hy
        split at h
        · rename_i tk b2 l hK hb
          simp only [AV.comp.injEq, List.cons.injEq, At.sc.injEq, Value.int.injEq, true_and, and_true] at hx hy
          subst hx; subst hy
          exact ⟨id, l, h, hb, fun bk' l' hb' => sound_put (m := 0) (x := 0) (y := 0) (.inr ho) (hC.ti _ _ hT) (hC.ti _ _ hK) hm hX hY hb'⟩
        · cases h
      · cases h
    · cases hp
  · cases hp

theorem Chain.nil_inv {ops : Array Oper} {os : List Oper} {sl sl' : Nat → AV} {bk bk' : Nat → Blk} {nx nx' : Nat} (h : Chain P n ops [] os sl bk nx sl' bk' nx') : os = [] ∧ sl = sl' ∧ bk = bk' ∧ nx = nx' := by
  cases os with
  | nil => exact ⟨rfl, h⟩
  | cons o os => exact h.elim

theorem Chain.cons_inv {ops : Array Oper} {st : Step} {r : List Step} {os : List Oper} {sl sl' : Nat → AV} {bk bk' : Nat → Blk} {nx nx' : Nat} (h : Chain P n ops (st :: r) os sl bk nx sl' bk' nx') :
    ∃ o l, os = o :: l ∧ st.sl = sl ∧ st.bk = bk ∧ st.nx = nx ∧ st.ok P ops o ∧ ∃ nx1, nx ≤ nx1 ∧ (∀ i ∈ st.eff.ids, i < nx1) ∧ Chain P n ops r l (updSl n st.rc.dst st.eff.val sl) (updS st bk) nx1 sl' bk' nx' := by
  cases os with
  | nil => exact h.elim
  | cons o os => exact ⟨o, os, rfl, h⟩

/-- What is written by listed operations alone is as on the way in the text's order. -/
theorem slL_agree {ops : Array Oper} {L : Nat → Bool} {t : Nat} (l : List Step) : ∀ {os : List Oper} {i : Nat} {f sl sl' : Nat → AV} {bk bk' : Nat → Blk} {nx nx' : Nat}, Chain P n ops l os sl bk nx sl' bk' nx' → f t = sl t →
    (∀ (j : Nat) (st : Step), l[j]? = some st → st.rc.dst = some t → L (i + j) = true) → slL n L l i f t = sl' t := by
  induction l with
  | nil =>
    intro os i f sl sl' bk bk' nx nx' hc hf _
    obtain ⟨_, h1, _⟩ := hc.nil_inv
    rw [← h1]; exact hf
  | cons st r ih =>
    intro os i f sl sl' bk bk' nx nx' hc hf hL
    obtain ⟨o, os', _, h1, h2, h3, h4, nx1, h5, h6, h7⟩ := hc.cons_inv
    simp only [slL]
    refine ih h7 ?_ fun j st' hj hd => by rw [show i + 1 + j = i + (j + 1) from by omega]; exact hL (j + 1) st' (by simpa using hj) hd
    split
    · cases hd : st.rc.dst with
      | none => exact hf
      | some d =>
        simp only [updSl]
        split
        · rfl
        · exact hf
    · rename_i hn
      cases hd : st.rc.dst with
      | none => exact hf
      | some d =>
        simp only [updSl]
        rw [if_neg]
        · exact hf
        · rintro ⟨rfl, _⟩
          exact hn (by simpa using hL 0 st rfl hd)

theorem bkL_agree {ops : Array Oper} {L : Nat → Bool} {t : Nat} (l : List Step) : ∀ {os : List Oper} {i : Nat} {f : Nat → Blk} {sl sl' : Nat → AV} {bk bk' : Nat → Blk} {nx nx' : Nat}, Chain P n ops l os sl bk nx sl' bk' nx' → f t = bk t →
    (∀ (j : Nat) (st : Step), l[j]? = some st → t ∈ st.eff.ids → L (i + j) = true) → bkL L l i f t = bk' t := by
  induction l with
  | nil =>
    intro os i f sl sl' bk bk' nx nx' hc hf _
    obtain ⟨_, _, h1, _⟩ := hc.nil_inv
    rw [← h1]; exact hf
  | cons st r ih =>
    intro os i f sl sl' bk bk' nx nx' hc hf hL
    obtain ⟨o, os', _, h1, h2, h3, h4, nx1, h5, h6, h7⟩ := hc.cons_inv
    simp only [bkL]
    refine ih h7 ?_ fun j st' hj hd => by rw [show i + 1 + j = i + (j + 1) from by omega]; exact hL (j + 1) st' (by simpa using hj) hd
    split
    · exact updS_same hf
    · rename_i hn
      rw [updS_not]
      · exact hf
      · intro hm
        exact hn (by simpa using hL 0 st rfl hm)

theorem Chain.split {ops : Array Oper} (l : List Step) : ∀ {os : List Oper} {sl sl' : Nat → AV} {bk bk' : Nat → Blk} {nx nx' : Nat} {i : Nat} {st : Step}, Chain P n ops l os sl bk nx sl' bk' nx' → l[i]? = some st →
    ∃ o, os[i]? = some o ∧ st.ok P ops o ∧ Chain P n ops (l.take i) (os.take i) sl bk nx st.sl st.bk st.nx ∧ l = l.take i ++ st :: l.drop (i + 1) := by
  induction l with
  | nil => intro os sl sl' bk bk' nx nx' i st hc h; simp at h
  | cons st' r ih =>
    intro os sl sl' bk bk' nx nx' i st hc h
    obtain ⟨o, os', rfl, h1, h2, h3, h4, nx1, h5, h6, h7⟩ := hc.cons_inv
    cases i with
    | zero =>
      simp only [List.getElem?_cons_zero, Option.some.injEq] at h
      subst h
      exact ⟨o, rfl, h4, ⟨h1.symm, h2.symm, h3.symm⟩, rfl⟩
    | succ i =>
      obtain ⟨o', k1, k2, k3, k4⟩ := ih (i := i) h7 (by simpa using h)
      refine ⟨o', by simpa using k1, k2, ⟨h1, h2, h3, h4, nx1, h5, h6, k3⟩, ?_⟩
      simp only [List.take_succ_cons, List.drop_succ_cons, List.cons_append]
      rw [← k4]

/-- Numbers of new blocks rise along the way. -/
theorem Chain.nx_le {ops : Array Oper} (l : List Step) : ∀ {os : List Oper} {sl sl' : Nat → AV} {bk bk' : Nat → Blk} {nx nx' : Nat}, Chain P n ops l os sl bk nx sl' bk' nx' →
    nx ≤ nx' ∧ os.length = l.length ∧ ∀ (j : Nat) (st : Step), l[j]? = some st → nx ≤ st.nx ∧ ∀ i ∈ st.eff.ids, i < nx' := by
  induction l with
  | nil =>
    intro os sl sl' bk bk' nx nx' hc
    obtain ⟨h0, _, _, h1⟩ := hc.nil_inv
    exact ⟨by omega, by rw [h0]; rfl, by simp⟩
  | cons st r ih =>
    intro os sl sl' bk bk' nx nx' hc
    obtain ⟨o, os', rfl, h1, h2, h3, h4, nx1, h5, h6, h7⟩ := hc.cons_inv
    obtain ⟨k1, k0, k2⟩ := ih h7
    refine ⟨by omega, by simp [k0], fun j st' hj => ?_⟩
    cases j with
    | zero =>
      simp only [List.getElem?_cons_zero, Option.some.injEq] at hj
      subst hj
      exact ⟨by omega, fun i hi => by have := h6 i hi; omega⟩
    | succ j =>
      obtain ⟨m1, m2⟩ := k2 j st' (by simpa using hj)
      exact ⟨by omega, m2⟩

/- Which operations stand ahead of which. -/
theorem maskOf_bit {o : Oper} {acc : List Nat} {i : Nat} (h : (maskOf o acc).testBit i = true) : ∃ e ∈ o.after.toList, Region.binds .any e = true ∧ (e.on = i ∨ (acc.getD e.on 0).testBit i = true) := by
  unfold maskOf at h
  have key : ∀ (l : List Edge) (z : Nat), (l.foldl (fun s e => if Region.binds .any e then s ||| 2 ^ e.on ||| acc.getD e.on 0 else s) z).testBit i = true → z.testBit i = true ∨ ∃ e ∈ l, Region.binds .any e = true ∧ (e.on = i ∨ (acc.getD e.on 0).testBit i = true) := by
    intro l
    induction l with
    | nil => intro z h; exact .inl h
    | cons e l ih =>
      intro z h
      simp only [List.foldl_cons] at h
      rcases ih _ h with h1 | ⟨e', h1, h2⟩
      · split at h1
        · rename_i hb
          simp only [Nat.testBit_or, Bool.or_eq_true, Nat.testBit_two_pow, decide_eq_true_eq] at h1
          rcases h1 with (h1 | h1) | h1
          · exact .inl h1
          · exact .inr ⟨e, by simp, hb, .inl h1⟩
          · exact .inr ⟨e, by simp, hb, .inr h1⟩
        · exact .inl h1
      · exact .inr ⟨e', by simp [h1], h2⟩
  rcases key _ _ h with h1 | h1
  · simp at h1
  · exact h1

theorem befs_get : ∀ (l : List Oper) (acc : List Nat) (j : Nat) (o : Oper), l[j]? = some o → (befs l acc)[acc.length + j]? = some (maskOf o ((befs l acc).take (acc.length + j))) ∧ ∀ i, i < acc.length → (befs l acc)[i]? = acc[i]?
  | [], acc, j, o, h => by simp at h
  | o' :: r, acc, 0, o, h => by
    simp only [List.getElem?_cons_zero, Option.some.injEq] at h
    subst h
    have hk : ∀ (r : List Oper) (acc : List Nat) (i : Nat), i < acc.length → (befs r acc)[i]? = acc[i]? := by
      intro r
      induction r with
      | nil => intro acc i _; rfl
      | cons p r ih =>
        intro acc i hi
        simp only [befs]
        rw [ih _ i (by simp; omega), List.getElem?_append_left hi]
    simp only [befs, Nat.add_zero]
    have h1 := hk r (acc ++ [maskOf o' acc])
    refine ⟨?_, fun i hi => ?_⟩
    · rw [h1 acc.length (by simp), List.getElem?_append_right (Nat.le_refl _)]
      simp only [Nat.sub_self, List.getElem?_cons_zero, Option.some.injEq]
      congr 1
      apply List.ext_getElem?
      intro i
      rw [List.getElem?_take]
      split
      · rename_i hi
        rw [h1 i (by simp; omega), List.getElem?_append_left hi]
      · rename_i hi
        rw [List.getElem?_eq_none (by omega)]
    · rw [h1 i (by simp; omega), List.getElem?_append_left hi]
  | o' :: r, acc, j + 1, o, h => by
    obtain ⟨h1, h2⟩ := befs_get r (acc ++ [maskOf o' acc]) j o (by simpa using h)
    simp only [befs]
    simp only [List.length_append, List.length_cons, List.length_nil, Nat.zero_add] at h1 h2
    refine ⟨by rw [show acc.length + (j + 1) = acc.length + 1 + j from by omega]; exact h1, fun i hi => ?_⟩
    rw [h2 i (by omega), List.getElem?_append_left hi]

/-- All that must stand ahead of an operation is listed, if it is listed itself, or if it is ready. -/
theorem anc_listed {ops : Array Oper} {L : Nat → Bool} (hcl : ∀ j o, ops[j]? = some o → L j = true → ∀ e ∈ o.after.toList, Region.binds .any e = true → L e.on = true) :
    ∀ (j : Nat) (o : Oper), ops[j]? = some o → (∀ e ∈ o.after.toList, Region.binds .any e = true → L e.on = true) → ∀ i, ((befs ops.toList []).getD j 0).testBit i = true → L i = true := by
  intro j
  induction j using Nat.strongRecOn with
  | _ j ih =>
    intro o ho hedge i hi
    have h1 := (befs_get ops.toList [] j o (by rw [Array.getElem?_toList]; exact ho)).1
    simp only [List.length_nil, Nat.zero_add] at h1
    rw [List.getD_eq_getElem?_getD, h1] at hi
    simp only [Option.getD_some] at hi
    obtain ⟨e, he, hb, h2⟩ := maskOf_bit hi
    have hL := hedge e he hb
    rcases h2 with h2 | h2
    · rw [← h2]; exact hL
    · rw [List.getD_eq_getElem?_getD, List.getElem?_take] at h2
      split at h2
      · rename_i hlt
        cases hoe : ops[e.on]? with
        | none =>
          have : (befs ops.toList [])[e.on]? = none ∨ True := .inr trivial
          have hsz : ops.size ≤ e.on := by
            rcases Nat.lt_or_ge e.on ops.size with h' | h'
            · rw [Array.getElem?_eq_getElem h'] at hoe; cases hoe
            · exact h'
          have hj := (Array.getElem?_eq_some_iff.1 ho).1
          omega
        | some oe => exact ih e.on hlt oe hoe (hcl e.on oe hoe hL) i (by rw [List.getD_eq_getElem?_getD]; exact h2)
      · simp at h2

theorem clash_anc {bf : List Nat} : ∀ {l : List Rec} {j0 : Nat} {before : List Rec}, clashFree bf l j0 before = true → before.length = j0 → ∀ (i j : Nat) (x y : Rec), i < j → (before ++ l)[i]? = some x → l[j - j0]? = some y → j0 ≤ j → clash x y = true → (bf.getD j 0).testBit i = true
  | [], _, _, _, _, i, j, x, y, _, _, hy, _, _ => by simp at hy
  | b :: r, j0, before, h, hl, i, j, x, y, hij, hx, hy, hj, hc => by
    simp only [clashFree, Bool.and_eq_true] at h
    by_cases hjj : j = j0
    · subst hjj
      simp only [Nat.sub_self, List.getElem?_cons_zero, Option.some.injEq] at hy
      subst hy
      have hx' : before[i]? = some x := by rw [List.getElem?_append_left (by omega)] at hx; exact hx
      have := List.all_eq_true.1 h.1 (x, i) (by
        rw [List.mem_zipIdx_iff_getElem?]; exact hx')
      simp only [Bool.or_eq_true, Bool.not_eq_true'] at this
      rcases this with h1 | h1
      · rw [hc] at h1; cases h1
      · exact h1
    · refine clash_anc h.2 (by simp [hl]) i j x y hij (by simpa using hx) ?_ (by omega) hc
      rw [show j - j0 = (j - (j0 + 1)) + 1 from by omega] at hy
      simpa using hy

theorem forward_edge : ∀ {l : List Oper} {i0 : Nat}, forward l i0 = true → ∀ (j : Nat) (o : Oper), l[j]? = some o → ∀ e ∈ o.after.toList, Region.binds .any e = true → e.on < i0 + j
  | [], _, _, _, _, h, _, _, _ => by simp at h
  | o' :: r, i0, h, 0, o, ho, e, he, hb => by
    simp only [forward, Bool.and_eq_true] at h
    simp only [List.getElem?_cons_zero, Option.some.injEq] at ho
    subst ho
    have := List.all_eq_true.1 h.1 e he
    simp only [hb, Bool.not_true, Bool.false_or, decide_eq_true_eq] at this
    omega
  | o' :: r, i0, h, j + 1, o, ho, e, he, hb => by
    simp only [forward, Bool.and_eq_true] at h
    have := forward_edge h.2 j o (by simpa using ho) e he hb
    omega

end Go.Eng
