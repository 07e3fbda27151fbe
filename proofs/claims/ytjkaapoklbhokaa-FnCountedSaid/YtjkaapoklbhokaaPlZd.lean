/- Plain laws, part Zd: drawn numbers, drawn registers. Conditions: none. -/
import Derived.Test.YtjkaapoklbhokaaPlZc
import Derived.Test.YtjkaapoklbhokaaPlP
set_option linter.all false
namespace Go.Prg
open Go.Eng

/-- A loop of which only a property of its states is known. -/
theorem iter_ex {σ X : Type} {f : σ → Option (σ ⊕ X)} (P : Nat → σ → Prop) (Q : X → Prop) (n : Nat) (h : ∀ i s, i < n → P i s → (∃ s', f s = some (.inl s') ∧ P (i + 1) s') ∨ (∃ r, f s = some (.inr r) ∧ Q r))
    (he : ∀ s, P n s → ∃ r, f s = some (.inr r) ∧ Q r) : ∀ k i s, i + k = n → P i s → ∃ r, iter f s = some r ∧ Q r
  | 0, i, s, hi, hp => by
    obtain ⟨r, h1, h2⟩ := he s (by rw [← hi]; exact hp)
    exact ⟨r, iter_end h1, h2⟩
  | k + 1, i, s, hi, hp => by
    rcases h i s (by omega) hp with ⟨s', h1, h2⟩ | ⟨r, h1, h2⟩
    · obtain ⟨r, h3, h4⟩ := iter_ex P Q n h he k (i + 1) s' (by omega) h2
      exact ⟨r, iter_eq h1 h3, h4⟩
    · exact ⟨r, iter_end h1, h2⟩

theorem ex_of {X : Type} {o : Option X} {Q : X → Prop} {G : Prop} (h : ∃ r, o = some r ∧ Q r) (hg : ∀ r, o = some r → Q r → G) : G := by
  obtain ⟨r, h1, h2⟩ := h
  exact hg r h1 h2

theorem and255 (x : Int) : 0 ≤ ibit .and .u64 x 255 ∧ ibit .and .u64 x 255 ≤ 255 := by
  have h : ibit .and .u64 x 255 = IntKind.u64.wrap ((BitVec.ofInt 64 x &&& BitVec.ofInt 64 255).toNat : Int) := rfl
  rw [h, BitVec.toNat_and, show (BitVec.ofInt 64 255).toNat = 255 from by decide, IntKind.wrap_u64]
  have h2 : (BitVec.ofInt 64 x).toNat &&& 255 ≤ 255 := Nat.and_le_right
  omega

theorem next_ok (l : List Int) (hl : ∀ x ∈ l, 0 ≤ x ∧ x ≤ 255) (p : Nat) (hp : (p : Int) ≤ 1000000) (s : Int) : ∃ v s', F_s_l00Src_next (l, ((p : Int), s)) = some (v, (l, (((p + 1 : Nat) : Int), s'))) ∧ 0 ≤ v ∧ v ≤ 255 := by
  unfold F_s_l00Src_next
  have e1 : iadd .i64 (p : Int) 1 = ((p + 1 : Nat) : Int) := by rw [iadd_e, w64 (by omega) (by omega)]; omega
  simp only [ilt_e, n2i_e, xlen_e, e1, ile_e]
  by_cases h : (p : Int) < l.length
  · have g := getD_all (p := fun d => 0 ≤ d ∧ d ≤ 255) hl (i := p) (by omega)
    rw [cond_pos h]
    simp (disch := omega) only [okIx_e, xlen_e, chk_pos, cond_pos, xget_e, i2n_e, w64]
    exact ⟨_, _, rfl, g⟩
  · rw [cond_neg h, cond_neg (by omega), show okShift .u64 40 = true from by decide, chk_t]
    refine ⟨_, _, rfl, ?_⟩
    generalize ishr _ _ = y
    have g := and255 y
    rw [iwrap_e, w64 (by omega) (by omega)]
    exact g

theorem tmod_pick {v m : Int} (h : 0 ≤ v) (hm : 2 ≤ m) : 0 ≤ v.tmod m ∧ v.tmod m ≤ m - 1 := by
  rw [Int.tmod_eq_emod_of_nonneg h]
  have h3 := Int.emod_nonneg v (show m ≠ 0 by omega)
  have h4 := Int.emod_lt_of_pos v (show 0 < m by omega)
  omega

theorem pick_ok (l : List Int) (hl : ∀ x ∈ l, 0 ≤ x ∧ x ≤ 255) (p : Nat) (hp : (p : Int) ≤ 100000) (s m : Int) (hm : m ≤ 1000000) :
    ∃ (v s' : Int) (p' : Nat), F_s_l00Src_pick ((l, ((p : Int), s)), m) = some (v, (l, ((p' : Int), s'))) ∧ p' ≤ p + 2 ∧ 0 ≤ v ∧ (v ≤ m - 1 ∨ m ≤ 1 ∧ v = 0) := by
  unfold F_s_l00Src_pick
  simp only [ile_e, igt_e]
  by_cases h1 : m ≤ 1
  · rw [cond_pos h1]
    exact ⟨0, s, p, rfl, by omega, by omega, .inr ⟨h1, rfl⟩⟩
  · rw [cond_neg h1]
    obtain ⟨v, s1, e1, v1, v2⟩ := next_ok l hl p (by omega) s
    simp only [e1, bind_s]
    by_cases h2 : 200 < m
    · rw [cond_pos h2]
      obtain ⟨u, s2, e2, u1, u2⟩ := next_ok l hl (p + 1) (by omega) s1
      simp (disch := omega) only [e2, bind_s, okDiv_e, chk_pos, irem_e, iadd_e, imul_e, w64]
      have := tmod_pick (v := v * 256 + u) (m := m) (by omega) (by omega)
      exact ⟨_, _, _, rfl, by omega, this.1, .inl this.2⟩
    · rw [cond_neg h2]
      simp (disch := omega) only [okDiv_e, chk_pos, irem_e]
      have := tmod_pick (v := v) (m := m) (by omega) (by omega)
      exact ⟨_, _, _, rfl, by omega, this.1, .inl this.2⟩

theorem one_ok (l : List Int) (hl : ∀ x ∈ l, 0 ≤ x ∧ x ≤ 255) (p : Nat) (hp : (p : Int) ≤ 100000) (s m : Int) (hm : m ≤ 1000000) :
    ∃ (c : Bool) (s' : Int) (p' : Nat), F_s_l00Src_one ((l, ((p : Int), s)), m) = some (c, (l, ((p' : Int), s'))) ∧ p' ≤ p + 2 := by
  unfold F_s_l00Src_one
  obtain ⟨v, s1, p1, e1, h1, _⟩ := pick_ok l hl p hp s m hm
  simp only [e1, bind_s]
  exact ⟨_, _, _, rfl, h1⟩

theorem drawDigits_ok (l : List Int) (hl : ∀ x ∈ l, 0 ≤ x ∧ x ≤ 255) (p : Nat) (hp : (p : Int) ≤ 50000) (s b : Int) (hb : 2 ≤ b ∧ b ≤ 16) (n : Nat) (hn : n ≤ 100) :
    ∃ (ds : List Int) (s' : Int) (p' : Nat), F_s_l02DrawDigits ((l, ((p : Int), s)), (b, (n : Int))) = some (ds, (l, ((p' : Int), s'))) ∧ (ds.length = n ∧ digitsOk b ds) ∧ p' ≤ p + 400 := by
  refine ex_of (o := F_s_l02DrawDigits ((l, ((p : Int), s)), (b, (n : Int)))) (Q := fun r : List Int × List Int × Int × Int => ∃ (ds : List Int) (s' : Int) (p' : Nat), r = (ds, (l, ((p' : Int), s'))) ∧ (ds.length = n ∧ digitsOk b ds) ∧ p' ≤ p + 400) ?_
    (fun r h1 ⟨ds, s', p', hr, h2, h3⟩ => ⟨ds, s', p', by rw [h1, hr], h2, h3⟩)
  unfold F_s_l02DrawDigits
  refine iter_ex (f := _) (fun i (t : Int × Int × Int × Int × Int × List Int × List Int) => ∃ (q : Nat) (s1 : Int) (ds : List Int), t = (b, (n : Int), (i : Int), (q : Int), s1, l, ds) ∧ q ≤ p + 4 * i ∧ ds.length = i ∧ digitsOk b ds)
    _ n (fun i t hi ⟨q, s1, ds, ht, hq, hd1, hd2⟩ => ?_) (fun t ⟨q, s1, ds, ht, hq, hd1, hd2⟩ => ?_) n 0 _ (by omega) ⟨p, s, [], rfl, by omega, rfl, fun d hd => by simp at hd⟩
  · subst ht
    left
    obtain ⟨v, s2, q2, e1, h2, v1, v2⟩ := pick_ok l hl q (by omega) s1 b (by omega)
    obtain ⟨c, s3, q3, e3, h3⟩ := one_ok l hl q2 (by omega) s2 3 (by omega)
    have hv : 0 ≤ v ∧ v ≤ b - 1 := by omega
    simp (disch := omega) only [ilt_e, cond_pos, e1, bind_s, e3, okRoom_e, xlen_e, hd1, List.length_cons, List.length_nil, chk_pos, isub_e, iadd_e, w64, xapp_e]
    cases c with
    | true => exact ⟨_, rfl, q3, s3, ds ++ [b - 1], rfl, by omega, by simp [hd1], fun d hd => by
        rcases List.mem_append.1 hd with h | h
        · exact hd2 d h
        · rw [List.mem_singleton] at h; omega⟩
    | false => exact ⟨_, rfl, q3, s3, ds ++ [v], rfl, by omega, by simp [hd1], fun d hd => by
        rcases List.mem_append.1 hd with h | h
        · exact hd2 d h
        · rw [List.mem_singleton] at h; omega⟩
  · subst ht
    simp (disch := omega) only [ilt_e, cond_neg]
    exact ⟨_, rfl, ds, s1, q, rfl, ⟨hd1, hd2⟩, by omega⟩

theorem small_valid {w : Int} {ds : List Int} (hw : 2 ≤ w ∧ w ≤ 12) (hl : 1 ≤ ds.length ∧ ds.length ≤ 7) (hd : digitsOk w ds) : validR (w, ds) = true := by
  have key : ∀ (i : Fin 11) (k : Fin 8), ((i.val : Int) + 2) ^ k.val ≤ 35831808 := by decide
  have h := key ⟨(w - 2).toNat, by omega⟩ ⟨ds.length, by omega⟩
  simp only at h
  rw [show (((w - 2).toNat : Nat) : Int) + 2 = w by omega] at h
  have h2 := valL_lt hw.1 hd
  exact validR_of (by omega) (by omega) hd (by omega)

theorem pairC_of {w : Int} {d e : List Int} (hw : 2 ≤ w ∧ w ≤ 12) (hd : 1 ≤ d.length ∧ d.length ≤ 7) (he : d.length = e.length) (h1 : digitsOk w d) (h2 : digitsOk w e) : pairC (w, d) (w, e) = 0 := by
  unfold pairC
  rw [small_valid hw hd h1, small_valid hw (by omega) h2]
  simp [he]

theorem shiftL_get (p : Int) (l : List Int) {n i : Nat} (h : i < n) : (shiftL p l n).getD i 0 = if 0 ≤ (i : Int) - p ∧ (i : Int) - p < l.length then l.getD ((i : Int) - p).toNat 0 else 0 := by
  simp [shiftL, List.getD_eq_getElem?_getD, h]

theorem shiftL_ok {w : Int} (hw : 2 ≤ w) (p : Int) {l : List Int} (hl : digitsOk w l) (n : Nat) : digitsOk w (shiftL p l n) := by
  intro d hd
  simp only [shiftL, List.mem_map, List.mem_range] at hd
  obtain ⟨i, hi, rfl⟩ := hd
  split
  · exact getD_all (p := fun d => 0 ≤ d ∧ d ≤ w - 1) hl (by omega)
  · omega

theorem carrL_at (b : Int) (l m : List Int) {n j : Nat} (h : j ≤ n) : (carrL b l m n).getD j 0 = carr b l m j := by
  simp [carrL, List.getD_eq_getElem?_getD, show j < n + 1 by omega]

end Go.Prg
