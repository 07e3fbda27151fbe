/- Plain laws, part A: loops, tests, numbers. Conditions: none. -/
import Derived.Test.YtjkaapoklbhokaaDoorEng25
import Derived.Laws.BitsLemmas
set_option linter.all false
namespace Go.Prg
open Go.Eng

theorem iterN_mono {σ X : Type} {f : σ → Option (σ ⊕ X)} {r : X} : ∀ {n : Nat} {s : σ}, iterN f n s = some r → ∀ m, n ≤ m → iterN f m s = some r
  | 0, _, h, _, _ => by simp [iterN] at h
  | n + 1, s, h, 0, hm => by omega
  | n + 1, s, h, m + 1, hm => by
    simp only [iterN] at h ⊢
    cases hf : f s with
    | none => rw [hf] at h; cases h
    | some z =>
      rw [hf] at h
      cases z with
      | inl s' => exact iterN_mono h m (by omega)
      | inr x => exact h

theorem iter_of {σ X : Type} {f : σ → Option (σ ⊕ X)} {r : X} {n : Nat} {s : σ} (h : iterN f n s = some r) : iter f s = some r := by
  unfold iter
  have hex : ∃ n x, iterN f n s = some x := ⟨n, r, h⟩
  rw [dif_pos hex]
  have hc := Classical.choose_spec (Classical.choose_spec hex)
  have h1 := iterN_mono h (max n (Classical.choose hex)) (Nat.le_max_left _ _)
  have h2 := iterN_mono hc (max n (Classical.choose hex)) (Nat.le_max_right _ _)
  rw [h1] at h2
  exact h2.symm

/-- A loop by its states: the first k rounds go on, round k ends it. -/
theorem iter_run {σ X : Type} {f : σ → Option (σ ⊕ X)} {s : σ} {r : X} (inv : Nat → σ) (k : Nat) (h0 : s = inv 0) (h : ∀ i, i < k → f (inv i) = some (.inl (inv (i + 1)))) (he : f (inv k) = some (.inr r)) : iter f s = some r := by
  subst h0
  have key : ∀ j, j ≤ k → iterN f (j + 1) (inv (k - j)) = some r := by
    intro j
    induction j with
    | zero => intro _; simp [iterN, he]
    | succ j ih =>
      intro hj
      have h1 := h (k - (j + 1)) (by omega)
      rw [iterN, h1]
      have h2 := ih (by omega)
      rw [show k - (j + 1) + 1 = k - j from by omega]
      exact h2
  have := key k (Nat.le_refl _)
  rw [Nat.sub_self] at this
  exact iter_of this

theorem iter_eq {σ X : Type} {f : σ → Option (σ ⊕ X)} {s s' : σ} {r : X} (h : f s = some (.inl s')) (h' : iter f s' = some r) : iter f s = some r := by
  obtain ⟨n, hn⟩ : ∃ n, iterN f n s' = some r := by
    unfold iter at h'
    split at h'
    · rename_i hh
      cases h'
      exact ⟨_, Classical.choose_spec (Classical.choose_spec hh)⟩
    · cases h'
  exact iter_of (n := n + 1) (by simp only [iterN, h]; exact hn)

theorem iter_end {σ X : Type} {f : σ → Option (σ ⊕ X)} {s : σ} {r : X} (h : f s = some (.inr r)) : iter f s = some r :=
  iter_of (n := 1) (by simp only [iterN, h])

/-- A loop that stops at the first element that fails. -/
theorem iter_all {σ X α : Type} {f : σ → Option (σ ⊕ X)} {s : σ} {good bad : X} (l : List α) (p : α → Bool) (inv : Nat → σ) (h0 : s = inv 0) (hs : ∀ i (h : i < l.length), p l[i] = true → f (inv i) = some (.inl (inv (i + 1))))
    (hb : ∀ i (h : i < l.length), p l[i] = false → f (inv i) = some (.inr bad)) (he : f (inv l.length) = some (.inr good)) : iter f s = some (cond (l.all p) good bad) := by
  cases hall : l.all p with
  | true =>
    refine iter_run inv l.length h0 (fun i hi => hs i hi ?_) he
    exact List.all_eq_true.1 hall _ (List.getElem_mem hi)
  | false =>
    have hex : ∃ k, ∃ h : k < l.length, p l[k] = false ∧ ∀ j (hj : j < k), p (l[j]'(by omega)) = true := by
      clear hs hb he h0
      induction l with
      | nil => simp at hall
      | cons x l ih =>
        cases hx : p x with
        | false => exact ⟨0, by simp, hx, fun j hj => by omega⟩
        | true =>
          simp only [List.all_cons, hx, Bool.true_and] at hall
          obtain ⟨k, hk, h1, h2⟩ := ih hall
          refine ⟨k + 1, by simpa using hk, by simpa using h1, fun j hj => ?_⟩
          cases j with
          | zero => simpa using hx
          | succ j => simpa using h2 j (by omega)
    obtain ⟨k, hk, h1, h2⟩ := hex
    exact iter_run inv k h0 (fun i hi => hs i (by omega) (h2 i hi)) (hb k hk h1)

/-- The same; the end is looked at only where all elements pass. -/
theorem iter_all2 {σ X α : Type} {f : σ → Option (σ ⊕ X)} {s : σ} {good bad : X} (l : List α) (p : α → Bool) (inv : Nat → σ) (h0 : s = inv 0) (hs : ∀ i (h : i < l.length), p l[i] = true → f (inv i) = some (.inl (inv (i + 1))))
    (hb : ∀ i (h : i < l.length), p l[i] = false → f (inv i) = some (.inr bad)) (he : l.all p = true → f (inv l.length) = some (.inr good)) : iter f s = some (cond (l.all p) good bad) := by
  cases hall : l.all p with
  | true =>
    have := iter_all (good := good) (bad := bad) l p inv h0 hs hb (he hall)
    rw [hall] at this
    exact this
  | false =>
    have hex : ∃ k, ∃ h : k < l.length, p l[k] = false ∧ ∀ j (hj : j < k), p (l[j]'(by omega)) = true := by
      clear hs hb he h0
      induction l with
      | nil => simp at hall
      | cons x l ih =>
        cases hx : p x with
        | false => exact ⟨0, by simp, hx, fun j hj => by omega⟩
        | true =>
          simp only [List.all_cons, hx, Bool.true_and] at hall
          obtain ⟨k, hk, h1, h2⟩ := ih hall
          refine ⟨k + 1, by simpa using hk, by simpa using h1, fun j hj => ?_⟩
          cases j with
          | zero => simpa using hx
          | succ j => simpa using h2 j (by omega)
    obtain ⟨k, hk, h1, h2⟩ := hex
    exact iter_run inv k h0 (fun i hi => hs i (by omega) (h2 i hi)) (hb k hk h1)

section tests
variable {α : Type} {p : Prop} [Decidable p] {x y : α} {k : Option α}
theorem cond_pos (h : p) : cond (decide p) x y = x := by simp [h]
theorem cond_neg (h : ¬ p) : cond (decide p) x y = y := by simp [h]
theorem chk_pos (h : p) : chk (decide p) k = k := by simp [chk, h]
theorem cond_t : cond true x y = x := rfl
theorem cond_f : cond false x y = y := rfl
theorem chk_t : chk true k = k := rfl
theorem bind_s {β : Type} {a : α} {g : α → Option β} : Option.bind (some a) g = g a := rfl
end tests

theorem maxLen_le {n : Nat} (h : n ≤ maxLen) : (n : Int) ≤ 9223372036854775807 := by
  have : maxLen = 9223372036854775807 := rfl
  omega

theorem bnev_s (a : Bool) : bnev a a = false := by cases a <;> rfl
theorem beqv_s (a : Bool) : beqv a a = true := by cases a <;> rfl
theorem w64 {n : Int} (h : -9223372036854775808 ≤ n) (h' : n ≤ 9223372036854775807) : IntKind.i64.wrap n = n := by rw [IntKind.wrap_i64]; omega
theorem iadd_e (a b : Int) : iadd .i64 a b = IntKind.i64.wrap (a + b) := rfl
theorem isub_e (a b : Int) : isub .i64 a b = IntKind.i64.wrap (a - b) := rfl
theorem imul_e (a b : Int) : imul .i64 a b = IntKind.i64.wrap (a * b) := rfl
theorem iquo_e (a b : Int) : iquo .i64 a b = IntKind.i64.wrap (a.tdiv b) := rfl
theorem irem_e (a b : Int) : irem a b = a.tmod b := rfl
theorem ieq_e (a b : Int) : ieq a b = decide (a = b) := rfl
theorem ine_e (a b : Int) : ine a b = decide (¬ a = b) := by
  unfold ine
  by_cases h : a = b <;> simp [h]
theorem ilt_e (a b : Int) : ilt a b = decide (a < b) := rfl
theorem ile_e (a b : Int) : ile a b = decide (a ≤ b) := rfl
theorem igt_e (a b : Int) : igt a b = decide (b < a) := rfl
theorem ige_e (a b : Int) : ige a b = decide (b ≤ a) := rfl
theorem okIx_e (i : Int) (n : Nat) : okIx i n = decide (0 ≤ i ∧ i < (n : Int)) := rfl
theorem okTo_e (i : Int) (n : Nat) : okTo i n = decide (0 ≤ i ∧ i ≤ (n : Int)) := rfl
theorem okRoom_e (a b c : Nat) : okRoom a b c = decide ((a + b) * c ≤ 140737488355328) := rfl
theorem okMake_e (m : Int) (c : Nat) : okMake m c = decide (0 ≤ m ∧ m ≤ 9223372036854775807 ∧ (c : Int) * m ≤ 281474976710656) := rfl
theorem okDiv_e (b : Int) : okDiv b = decide (¬ b = 0) := by
  unfold okDiv
  by_cases h : b = 0 <;> simp [h]
theorem bnot_d (p : Prop) [Decidable p] : bnot (decide p) = decide (¬ p) := by
  unfold bnot
  by_cases h : p <;> simp [h]
theorem bnot_t : bnot true = false := rfl
theorem bnot_f : bnot false = true := rfl
theorem n2i_e (n : Nat) : n2i n = (n : Int) := rfl
theorem i2n_e (n : Nat) : i2n (n : Int) = n := rfl
theorem xlen_e {α : Type} (l : List α) : xlen l = l.length := rfl
theorem xset_e {α : Type} (l : List α) (i : Nat) (x : α) : xset l i x = l.set i x := rfl
theorem xapp_e {α : Type} (l m : List α) : xapp l m = l ++ m := rfl
theorem xrep_e {α : Type} (n : Nat) (x : α) : xrep n x = List.replicate n x := rfl
theorem xget_e {α : Type} (l : List α) (i : Nat) (d : α) : xget l i d = l.getD i d := rfl
theorem xsub_e {α : Type} (l : List α) (i j : Nat) : xsub l i j = (l.take j).drop i := rfl
theorem map_s {α β : Type} (f : α → β) (x : α) : Option.map f (some x) = some (f x) := rfl
theorem iwrap_e (k : IntKind) (a : Int) : iwrap k a = k.wrap a := rfl
theorem share_e {α X : Type} (x : α) (k : α → Option X) : share x k = k x := rfl
theorem xget0 {α : Type} (x d : α) (l : List α) : xget (x :: l) 0 d = x := rfl

end Go.Prg
