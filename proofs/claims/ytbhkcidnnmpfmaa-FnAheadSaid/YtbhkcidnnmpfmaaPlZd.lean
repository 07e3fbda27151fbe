/- Plain laws, part Zd: drawn numbers, drawn registers. Conditions: none. -/
import Derived.Test.YtbhkcidnnmpfmaaPlZc
import Derived.Test.YtbhkcidnnmpfmaaPlP
set_option linter.all false
namespace Go.Prg
open Go.Eng

/-- A loop of which only a property of its states is known. -/
theorem iter_ex {σ X : Type} {f : σ → Option (σ ⊕ X)} (P : Nat → σ → Prop) (Q : X → Prop) (n : Nat) (h : ∀ i s, i < n → P i s → (∃ s', f s = some (.inl s') ∧ P (i + 1) s') ∨ (∃ r, f s = some (.inr r) ∧ Q r))
    (he : ∀ s, P n s → ∃ r, f s = some (.inr r) ∧ Q r) : ∀ k i s, i + k = n → P i s → ∃ r, iter f s = some r ∧ Q r
  | 0, i, s, hi, hp => by
    obtain ⟨r, h1, h2⟩ := he s (by rw [← hi]; exact hp)
    exact ⟨r, iter_end h1, h2⟩
  | k + 1, i, s, hi, hp => by
    rcases h i s (by omega) hp with ⟨s', h1, h2⟩ | ⟨r, h1, h2⟩
    · obtain ⟨r, h3, h4⟩ := iter_ex P Q n h he k (i + 1) s' (by omega) h2
      exact ⟨r, iter_eq h1 h3, h4⟩
    · exact ⟨r, iter_end h1, h2⟩

theorem ex_of {X : Type} {o : Option X} {Q : X → Prop} {G : Prop} (h : ∃ r, o = some r ∧ Q r) (hg : ∀ r, o = some r → Q r → G) : G := by
  obtain ⟨r, h1, h2⟩ := h
  exact hg r h1 h2

theorem and255 (x : Int) : 0 ≤ ibit .and .u64 x 255 ∧ ibit .and .u64 x 255 ≤ 255 := by
  have h : ibit .and .u64 x 255 = IntKind.u64.wrap ((BitVec.ofInt 64 x &&& BitVec.ofInt 64 255).toNat : Int) := rfl
  rw [h, BitVec.toNat_and, show (BitVec.ofInt 64 255).toNat = 255 from by decide, IntKind.wrap_u64]
  have h2 : (BitVec.ofInt 64 x).toNat &&& 255 ≤ 255 := Nat.and_le_right
  omega

theorem next_ok (l : List Int) (hl : ∀ x ∈ l, 0 ≤ x ∧ x ≤ 255) (p : Nat) (hp : (p : Int) ≤ 1000000) (s : Int) : ∃ v s', F_s_l00Src_next (l, ((p : Int), s)) = some (v, (l, (((p + 1 : Nat) : Int), s'))) ∧ 0 ≤ v ∧ v ≤ 255 := by
  unfold F_s_l00Src_next
  have e1 : iadd .i64 (p : Int) 1 = ((p + 1 : Nat) : Int) := by rw [iadd_e, w64 (by omega) (by omega)]; omega
  simp only [ilt_e, n2i_e, xlen_e, e1, ile_e]
  by_cases h : (p : Int) < l.length
  · have g := getD_all (p := fun d => 0 ≤ d ∧ d ≤ 255) hl (i := p) (by omega)
    rw [cond_pos h]
    simp (disch := omega) only [okIx_e, xlen_e, chk_pos, cond_pos, xget_e, i2n_e, w64]
    exact ⟨_, _, rfl, g⟩
  · rw [cond_neg h, cond_neg (by omega), show okShift .u64 40 = true from by decide, chk_t]
    refine ⟨_, _, rfl, ?_⟩
    generalize ishr _ _ = y
    have g := and255 y
    rw [iwrap_e, w64 (by omega) (by omega)]
    exact g

theorem tmod_pick {v m : Int} (h : 0 ≤ v) (hm : 2 ≤ m) : 0 ≤ v.tmod m ∧ v.tmod m ≤ m - 1 := by
  rw [Int.tmod_eq_emod_of_nonneg h]
  have h3 := Int.emod_nonneg v (show m ≠ 0 by omega)
  have h4 := Int.emod_lt_of_pos v (show 0 < m by omega)
  omega

theorem pick_ok (l : List Int) (hl : ∀ x ∈ l, 0 ≤ x ∧ x ≤ 255) (p : Nat) (hp : (p : Int) ≤ 100000) (s m : Int) (hm : m ≤ 1000000) :
    ∃ (v s' : Int) (p' : Nat), F_s_l00Src_pick ((l, ((p : Int), s)), m) = some (v, (l, ((p' : Int), s'))) ∧ p' ≤ p + 2 ∧ 0 ≤ v ∧ (v ≤ m - 1 ∨ m ≤ 1 ∧ v = 0) := by
  unfold F_s_l00Src_pick
  simp only [ile_e, igt_e]
  by_cases h1 : m ≤ 1
  · rw [cond_pos h1]
    exact ⟨0, s, p, rfl, by omega, by omega, .inr ⟨h1, rfl⟩⟩
  · rw [cond_neg h1]
    obtain ⟨v, s1, e1, v1, v2⟩ := next_ok l hl p (by omega) s
    simp only [e1, bind_s]
    by_cases h2 : 200 < m
    · rw [cond_pos h2]
      obtain ⟨u, s2, e2, u1, u2⟩ := next_ok l hl (p + 1) (by omega) s1
      simp (disch := omega) only [e2, bind_s, okDiv_e, chk_pos, irem_e, iadd_e, imul_e, w64]
      have := tmod_pick (v := v * 256 + u) (m := m) (by omega) (by omega)
      exact ⟨_, _, _, rfl, by omega, this.1, .inl this.2⟩
    · rw [cond_neg h2]
      simp (disch := omega) only [okDiv_e, chk_pos, irem_e]
      have := tmod_pick (v := v) (m := m) (by omega) (by omega)
      exact ⟨_, _, _, rfl, by omega, this.1, .inl this.2⟩

theorem one_ok (l : List Int) (hl : ∀ x ∈ l, 0 ≤ x ∧ x ≤ 255) (p : Nat) (hp : (p : Int) ≤ 100000) (s m : Int) (hm : m ≤ 1000000) :
    ∃ (c : Bool) (s' : Int) (p' : Nat), F_s_l00Src_one ((l, ((p : Int), s)), m) = some (c, (l, ((p' : Int), s'))) ∧ p' ≤ p + 2 := by
  unfold F_s_l00Src_one
  obtain ⟨v, s1, p1, e1, h1, _⟩ := pick_ok l hl p hp s m hm
  simp only [e1, bind_s]
  exact ⟨_, _, _, rfl, h1⟩

theorem drawDigits_ok (l : List Int) (hl : ∀ x ∈ l, 0 ≤ x ∧ x ≤ 255) (p : Nat) (hp : (p : Int) ≤ 50000) (s b : Int) (hb : 2 ≤ b ∧ b ≤ 16) (n : Nat) (hn : n ≤ 100) :
    ∃ (ds : List Int) (s' : Int) (p' : Nat), F_s_l02DrawDigits ((l, ((p : Int), s)), (b, (n : Int))) = some (ds, (l, ((p' : Int), s'))) ∧ (ds.length = n ∧ digitsOk b ds) ∧ p' ≤ p + 400 := by
  refine ex_of (o := F_s_l02DrawDigits ((l, ((p : Int), s)), (b, (n : Int)))) (Q := fun r : List Int × List Int × Int × Int => ∃ (ds : List Int) (s' : Int) (p' : Nat), r = (ds, (l, ((p' : Int), s'))) ∧ (ds.length = n ∧ digitsOk b ds) ∧ p' ≤ p + 400) ?_
    (fun r h1 ⟨ds, s', p', hr, h2, h3⟩ => ⟨ds, s', p', by rw [h1, hr], h2, h3⟩)
  unfold F_s_l02DrawDigits
  refine iter_ex (f := _) (fun i (t : Int × Int × Int × Int × Int × List Int × List Int) => ∃ (q : Nat) (s1 : Int) (ds : List Int), t = (b, (n : Int), (i : Int), (q : Int), s1, l, ds) ∧ q ≤ p + 4 * i ∧ ds.length = i ∧ digitsOk b ds)
    _ n (fun i t hi ⟨q, s1, ds, ht, hq, hd1, hd2⟩ => ?_) (fun t ⟨q, s1, ds, ht, hq, hd1, hd2⟩ => ?_) n 0 _ (by omega) ⟨p, s, [], rfl, by omega, rfl, fun d hd => by simp at hd⟩
  · subst ht
    left
    obtain ⟨v, s2, q2, e1, h2, v1, v2⟩ := pick_ok l hl q (by omega) s1 b (by omega)
    obtain ⟨c, s3, q3, e3, h3⟩ := one_ok l hl q2 (by omega) s2 3 (by omega)
    have hv : 0 ≤ v ∧ v ≤ b - 1 := by omega
    simp (disch := omega) only [ilt_e, cond_pos, e1, bind_s, e3, okRoom_e, xlen_e, hd1, List.length_cons, List.length_nil, chk_pos, isub_e, iadd_e, w64, xapp_e]
    cases c with
    | true => exact ⟨_, rfl, q3, s3, ds ++ [b - 1], rfl, by omega, by simp [hd1], fun d hd => by
        rcases List.mem_append.1 hd with h | h
        · exact hd2 d h
        · rw [List.mem_singleton] at h; omega⟩
    | false => exact ⟨_, rfl, q3, s3, ds ++ [v], rfl, by omega, by simp [hd1], fun d hd => by
        rcases List.mem_append.1 hd with h | h
        · exact hd2 d h
        · rw [List.mem_singleton] at h; omega⟩
  · subst ht
    simp (disch := omega) only [ilt_e, cond_neg]
    exact ⟨_, rfl, ds, s1, q, rfl, ⟨hd1, hd2⟩, by omega⟩

theorem most_ok (b : Int) (hb : 2 ≤ b ∧ b ≤ 16) : ∃ v, F_s_l02Most b = some v ∧ 1 ≤ v ∧ v ≤ 16 := by
  unfold F_s_l02Most
  have h0 : 4 ≤ b * b ∧ b * b ≤ 256 := by
    have h1 : 2 * 2 ≤ b * b := Int.mul_le_mul hb.1 hb.1 (by omega) (by omega)
    have h2 : b * b ≤ 16 * 16 := Int.mul_le_mul hb.2 hb.2 (by omega) (by omega)
    omega
  simp (disch := omega) only [imul_e, w64]
  refine iter_ex (f := _) (fun i (t : Int × Int × Int) => ∃ q : Int, t = (b, (i : Int) + 1, q) ∧ 1 ≤ q ∧ q ≤ 16000000000032) (fun v : Int => 1 ≤ v ∧ v ≤ 16) 15
    (fun i t hi ⟨q, ht, q1, q2⟩ => ?_) (fun t ⟨q, ht, q1, q2⟩ => ?_) 15 0 (b, 1, b * b) rfl ⟨b * b, rfl, by omega, by omega⟩
  · subst ht
    simp (disch := omega) only [isub_e, w64, ile_e, ilt_e]
    by_cases h1 : q - 1 ≤ 1000000000000
    · have hm := mul16 hb.1 hb.2 (v := q) (by omega) (by omega)
      have hpos : 0 < q * b := Int.mul_pos (by omega) (by omega)
      rw [Int.mul_comm b q] at hm
      rw [cond_pos h1, cond_pos (by omega)]
      simp (disch := omega) only [iadd_e, imul_e, w64]
      left
      exact ⟨_, rfl, q * b, by simp, by omega, by omega⟩
    · rw [cond_neg h1]
      right
      exact ⟨_, rfl, by omega, by omega⟩
  · subst ht
    simp (disch := omega) only [isub_e, w64, ile_e, ilt_e]
    by_cases h1 : q - 1 ≤ 1000000000000
    · rw [cond_pos h1, cond_neg (by omega)]
      exact ⟨_, rfl, by omega, by omega⟩
    · rw [cond_neg h1]
      exact ⟨_, rfl, by omega, by omega⟩

theorem draw_ok (l : List Int) (hl : ∀ x ∈ l, 0 ≤ x ∧ x ≤ 255) (p : Nat) (hp : (p : Int) ≤ 10000) (s : Int) :
    ∃ (w : Int) (ds : List Int) (s' : Int) (p' : Nat), F_s_l02Draw ((l, ((p : Int), s)), 7) = some ((w, ds), (l, ((p' : Int), s'))) ∧ (2 ≤ w ∧ w ≤ 12) ∧ (1 ≤ ds.length ∧ ds.length ≤ 7) ∧ digitsOk w ds ∧ p' ≤ p + 500 := by
  unfold F_s_l02Draw
  obtain ⟨v, s1, p1, e1, h1, v1, v2⟩ := pick_ok l hl p (by omega) s 11 (by omega)
  obtain ⟨c, s2, p2, e2, h2⟩ := one_ok l hl p1 (by omega) s1 2 (by omega)
  simp only [e1, bind_s, e2]
  have key : ∀ w : Int, 2 ≤ w ∧ w ≤ 12 → ∃ (w' : Int) (ds : List Int) (s' : Int) (p' : Nat), (Option.bind (F_s_l02Most w) fun r4 => Option.bind (F_s_l00Min (7, r4)) fun r5 => Option.bind (F_s_l00Src_pick ((l, ((p2 : Int), s2)), r5)) fun r6 =>
      Option.bind (F_s_l02DrawDigits ((r6.2.1, r6.2.2), (w, iadd .i64 1 r6.1))) fun r7 => some ((w, r7.1), (r7.2.1, r7.2.2))) = some ((w', ds), (l, ((p' : Int), s'))) ∧ (2 ≤ w' ∧ w' ≤ 12) ∧ (1 ≤ ds.length ∧ ds.length ≤ 7) ∧ digitsOk w' ds ∧ p' ≤ p + 500 := by
    intro w hw
    obtain ⟨q, e3, q1, q2⟩ := most_ok w (by omega)
    obtain ⟨z, e4, z1, z2⟩ : ∃ z, F_s_l00Min (7, q) = some z ∧ 1 ≤ z ∧ z ≤ 7 := by
      unfold F_s_l00Min
      simp only [ilt_e]
      by_cases h : 7 < q
      · rw [cond_pos h]; exact ⟨_, rfl, by omega, by omega⟩
      · rw [cond_neg h]; exact ⟨_, rfl, by omega, by omega⟩
    obtain ⟨u, s3, p3, e5, h5, u1, u2⟩ := pick_ok l hl p2 (by omega) s2 z (by omega)
    have hk : iadd .i64 1 u = (((1 + u).toNat : Nat) : Int) := by rw [iadd_e, w64 (by omega) (by omega)]; omega
    obtain ⟨ds, s4, p4, e6, ⟨d1, d2⟩, h6⟩ := drawDigits_ok l hl p3 (by omega) s3 w (by omega) (1 + u).toNat (by omega)
    simp only [e3, bind_s, e4, e5, hk, e6]
    exact ⟨w, ds, s4, p4, rfl, hw, by omega, d2, by omega⟩
  cases c with
  | true => exact key 10 (by omega)
  | false =>
    have hk : iadd .i64 2 v = 2 + v := by rw [iadd_e, w64 (by omega) (by omega)]
    simp only [cond_f, hk]
    exact key (2 + v) (by omega)

theorem small_valid {w : Int} {ds : List Int} (hw : 2 ≤ w ∧ w ≤ 12) (hl : 1 ≤ ds.length ∧ ds.length ≤ 7) (hd : digitsOk w ds) : validR (w, ds) = true := by
  have key : ∀ (i : Fin 11) (k : Fin 8), ((i.val : Int) + 2) ^ k.val ≤ 35831808 := by decide
  have h := key ⟨(w - 2).toNat, by omega⟩ ⟨ds.length, by omega⟩
  simp only at h
  rw [show (((w - 2).toNat : Nat) : Int) + 2 = w by omega] at h
  have h2 := valL_lt hw.1 hd
  exact validR_of (by omega) (by omega) hd (by omega)

theorem regs_ok (l : List Int) (hl : ∀ x ∈ l, 0 ≤ x ∧ x ≤ 255) : ∃ (w : Int) (d e : List Int), F_s_A2Registers l = some ((w, d), (w, e)) ∧ (2 ≤ w ∧ w ≤ 12) ∧ (1 ≤ d.length ∧ d.length ≤ 7) ∧ d.length = e.length ∧ digitsOk w d ∧ digitsOk w e := by
  unfold F_s_A2Registers F_s_l00From
  obtain ⟨w, d, s1, p1, e1, hw, hd, hdd, hp⟩ := draw_ok l hl 0 (by omega) 0
  obtain ⟨e, s2, p2, e2, ⟨h3, h4⟩, _⟩ := drawDigits_ok l hl p1 (by omega) s1 w (by omega) d.length (by omega)
  have e1' : F_s_l02Draw ((l, (0, 0)), 7) = some ((w, d), (l, ((p1 : Int), s1))) := e1
  simp only [bind_s, e1', n2i_e, xlen_e, e2]
  exact ⟨w, d, e, rfl, hw, hd, h3.symm, hdd, h4⟩

theorem pairC_of {w : Int} {d e : List Int} (hw : 2 ≤ w ∧ w ≤ 12) (hd : 1 ≤ d.length ∧ d.length ≤ 7) (he : d.length = e.length) (h1 : digitsOk w d) (h2 : digitsOk w e) : pairC (w, d) (w, e) = 0 := by
  unfold pairC
  rw [small_valid hw hd h1, small_valid hw (by omega) h2]
  simp [he]

theorem shiftL_get (p : Int) (l : List Int) {n i : Nat} (h : i < n) : (shiftL p l n).getD i 0 = if 0 ≤ (i : Int) - p ∧ (i : Int) - p < l.length then l.getD ((i : Int) - p).toNat 0 else 0 := by
  simp [shiftL, List.getD_eq_getElem?_getD, h]

theorem shiftL_ok {w : Int} (hw : 2 ≤ w) (p : Int) {l : List Int} (hl : digitsOk w l) (n : Nat) : digitsOk w (shiftL p l n) := by
  intro d hd
  simp only [shiftL, List.mem_map, List.mem_range] at hd
  obtain ⟨i, hi, rfl⟩ := hd
  split
  · exact getD_all (p := fun d => 0 ≤ d ∧ d ≤ w - 1) hl (by omega)
  · omega

theorem carrL_at (b : Int) (l m : List Int) {n j : Nat} (h : j ≤ n) : (carrL b l m n).getD j 0 = carr b l m j := by
  simp [carrL, List.getD_eq_getElem?_getD, show j < n + 1 by omega]

theorem law_FnShiftedDigits (x : List Int × List Int) (h1 : ∀ d ∈ x.1, 0 ≤ d ∧ d ≤ 255) (h2 : ∀ d ∈ x.2, 0 ≤ d ∧ d ≤ 255) : F_l_FnShiftedDigits x = some true := by
  obtain ⟨x, y⟩ := x
  simp only at h1 h2
  unfold F_l_FnShiftedDigits F_l_a2Long
  simp only [igt_e, n2i_e, xlen_e]
  by_cases hx : 3000 < (x.length : Int)
  · rw [cond_pos hx]; rfl
  rw [cond_neg hx]
  simp only [bind_s]
  by_cases hy : 3000 < (y.length : Int)
  · rw [cond_pos hy]
  rw [cond_neg hy]
  obtain ⟨w, d, e, e1, hw, hd, he, hd1, hd2⟩ := regs_ok x h1
  have hk : iadd .i64 (d.length : Int) 1 = (d.length : Int) + 1 := by rw [iadd_e, w64 (by omega) (by omega)]
  obtain ⟨k, e2, k1, k2⟩ := a2At_in y h2 (by omega) 0 ((d.length : Int) + 1) (by omega)
  have e2' : F_l_a2At (y, (0, (d.length : Int) + 1)) = some k := e2
  have l1 := shiftL_len k d d.length
  have l2 := shiftL_len (0 - k) (shiftL k d d.length) d.length
  have s1 : shiftR ((w, d), k) = ((w, shiftL k d d.length), 0) := by
    unfold shiftR
    simp only [small_valid hw hd hd1, cond_t]
    rw [if_pos (by omega), small_valid hw (by omega) (shiftL_ok hw.1 k hd1 d.length)]
    rfl
  have s2 : shiftR ((w, shiftL k d d.length), 0 - k) = ((w, shiftL (0 - k) (shiftL k d d.length) d.length), 0) := by
    unfold shiftR
    simp only [small_valid hw (show 1 ≤ (shiftL k d d.length).length ∧ (shiftL k d d.length).length ≤ 7 by omega) (shiftL_ok hw.1 k hd1 d.length), cond_t, l1]
    rw [if_pos (by omega), small_valid hw (by omega) (shiftL_ok hw.1 (0 - k) (shiftL_ok hw.1 k hd1 d.length) d.length)]
    rfl
  have i1 := i_shift' (w, d) k (by simp only; omega)
  have i2 := i_shift' (w, shiftL k d d.length) (0 - k) (by simp only; omega)
  have i3 := i_carriesOf (w, d) (w, e) (by simp only; omega) (by simp only; omega)
  have i4 := s_validRegister w (shiftL k d d.length) (by omega)
  rw [s1] at i1
  rw [s2] at i2
  rw [small_valid hw (by omega) (shiftL_ok hw.1 k hd1 d.length)] at i4
  unfold carriesR at i3
  rw [if_pos (pairC_of hw hd he hd1 hd2)] at i3
  have hneg : isub .i64 0 k = 0 - k := by rw [isub_e, w64 (by omega) (by omega)]
  have lc := carrL_len w d e d.length
  have c0 : xget (carrL w d e d.length) (i2n 0) 0 = 0 := carrL_at w d e (Nat.zero_le _)
  simp (disch := omega) only [e1, bind_s, n2i_e, xlen_e, hk, e2', i1, ine_e, i4, bnot_t, cond_f, l1, hneg, i2, i3, l2, lc, okIx_e, chk_pos, c0]
  simp only [not_true_eq_false, decide_false, cond_f]
  rw [cond_neg (by omega)]
  refine iter_run (fun i => ((d.length : Int), k, (i : Int), w, d, w, e, w, shiftL (0 - k) (shiftL k d d.length) d.length, carrL w d e d.length)) d.length (by simp) (fun i hi => ?_) ?_
  · have g1 := getD_all (p := fun d => 0 ≤ d ∧ d ≤ w - 1) hd1 (i := i) (by omega)
    have g2 := getD_all (p := fun d => 0 ≤ d ∧ d ≤ w - 1) hd2 (i := i) (by omega)
    have g3 := carr_in (show 2 ≤ w by omega) hd1 hd2 he i (by omega)
    have g4 := carr_in (show 2 ≤ w by omega) hd1 hd2 he (i + 1) (by omega)
    have hc : carr w d e (i + 1) = (d.getD i 0 + e.getD i 0 + carr w d e i).tdiv w := rfl
    have c1 := carrL_at w d e (n := d.length) (j := i) (by omega)
    have c2 := carrL_at w d e (n := d.length) (j := i + 1) (by omega)
    have e5 : i2n ((i : Int) + 1) = i + 1 := by unfold i2n; omega
    have hq : decide (w ≤ d.getD i 0 + e.getD i 0 + carr w d e i) = decide (carr w d e (i + 1) = 1) := by
      rw [hc, Int.tdiv_eq_ediv_of_nonneg (by omega)]
      by_cases h : w ≤ d.getD i 0 + e.getD i 0 + carr w d e i
      · have : (d.getD i 0 + e.getD i 0 + carr w d e i) / w = 1 := by
          rw [show d.getD i 0 + e.getD i 0 + carr w d e i = (d.getD i 0 + e.getD i 0 + carr w d e i - w) + 1 * w by omega, Int.add_mul_ediv_right _ _ (by omega), Int.ediv_eq_zero_of_lt (by omega) (by omega)]
          rfl
        rw [this, decide_eq_true h]; rfl
      · rw [Int.ediv_eq_zero_of_lt (by omega) (by omega), decide_eq_false h]; rfl
    have hb : (shiftL (0 - k) (shiftL k d d.length) d.length).getD i 0 = if (i : Int) + k < d.length then d.getD i 0 else 0 := by
      rw [shiftL_get _ _ hi, l1]
      by_cases hk2 : (i : Int) + k < d.length
      · rw [if_pos (by omega), if_pos hk2, shiftL_get _ _ (by omega), if_pos (by omega)]
        congr 1
        omega
      · rw [if_neg (by omega), if_neg hk2]
    simp (disch := omega) only [ilt_e, cond_pos, okIx_e, xlen_e, chk_pos, iadd_e, w64, ige_e, l2, lc, xget_e, i2n_e, e5, c1, c2, ine_e, hb, igt_e, ieq_e, hq, bnev_s, cond_f]
    by_cases hk2 : (i : Int) + k < d.length
    · rw [cond_neg (by omega), if_pos hk2, cond_neg (by simp), cond_neg (by omega), cond_neg (by omega)]
      rfl
    · rw [cond_pos (by omega), if_neg hk2, cond_neg (by simp), cond_neg (by omega), cond_neg (by omega)]
      rfl
  · simp (disch := omega) only [ilt_e, cond_neg]

theorem FnShiftedDigits_true (x : List Int × List Int) (h : wfArgs [.val false (.row false 5 (.int .u8)), .val false (.row false 5 (.int .u8))] x) : ∃ y, F_l_FnShiftedDigits x = some y ∧ hhead .bool [] y = true :=
  ⟨true, law_FnShiftedDigits x (wf_u8s (show wf (.row false 5 (.int .u8)) x.1 from h.1)) (wf_u8s (show wf (.row false 5 (.int .u8)) x.2 from h.2.1)), rfl⟩

end Go.Prg
