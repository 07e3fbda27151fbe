/- Plain laws, part Te: tables with a wrong row and their witnesses. Conditions: none. -/
import Derived.Test.YthiajmikeaolmaaPlTb
set_option linter.all false
namespace Go.Prg
open Go.Eng

/-- A loop of which only a property of its states is known. -/
theorem iter_ex {σ X : Type} {f : σ → Option (σ ⊕ X)} (P : Nat → σ → Prop) (Q : X → Prop) (n : Nat) (h : ∀ i s, i < n → P i s → (∃ s', f s = some (.inl s') ∧ P (i + 1) s') ∨ (∃ r, f s = some (.inr r) ∧ Q r))
    (he : ∀ s, P n s → ∃ r, f s = some (.inr r) ∧ Q r) : ∀ k i s, i + k = n → P i s → ∃ r, iter f s = some r ∧ Q r
  | 0, i, s, hi, hp => by
    obtain ⟨r, h1, h2⟩ := he s (by rw [← hi]; exact hp)
    exact ⟨r, iter_end h1, h2⟩
  | k + 1, i, s, hi, hp => by
    rcases h i s (by omega) hp with ⟨s', h1, h2⟩ | ⟨r, h1, h2⟩
    · obtain ⟨r, h3, h4⟩ := iter_ex P Q n h he k (i + 1) s' (by omega) h2
      exact ⟨r, iter_eq h1 h3, h4⟩
    · exact ⟨r, iter_end h1, h2⟩

theorem ex_of {X : Type} {o : Option X} {Q : X → Prop} {G : Prop} (h : ∃ r, o = some r ∧ Q r) (hg : ∀ r, o = some r → Q r → G) : G := by
  obtain ⟨r, h1, h2⟩ := h
  exact hg r h1 h2

theorem and255 (x : Int) : 0 ≤ ibit .and .u64 x 255 ∧ ibit .and .u64 x 255 ≤ 255 := by
  have h : ibit .and .u64 x 255 = IntKind.u64.wrap ((BitVec.ofInt 64 x &&& BitVec.ofInt 64 255).toNat : Int) := rfl
  rw [h, BitVec.toNat_and, show (BitVec.ofInt 64 255).toNat = 255 from by decide, IntKind.wrap_u64]
  have h2 : (BitVec.ofInt 64 x).toNat &&& 255 ≤ 255 := Nat.and_le_right
  omega

theorem next_ok (l : List Int) (hl : ∀ x ∈ l, 0 ≤ x ∧ x ≤ 255) (p : Nat) (hp : (p : Int) ≤ 1000000) (s : Int) : ∃ v s', F_s_l00Src_next (l, ((p : Int), s)) = some (v, (l, (((p + 1 : Nat) : Int), s'))) ∧ 0 ≤ v ∧ v ≤ 255 := by
  unfold F_s_l00Src_next
  have e1 : iadd .i64 (p : Int) 1 = ((p + 1 : Nat) : Int) := by rw [iadd_e, w64 (by omega) (by omega)]; omega
  simp only [ilt_e, n2i_e, xlen_e, e1, ile_e]
  by_cases h : (p : Int) < l.length
  · have g := getD_all (p := fun d => 0 ≤ d ∧ d ≤ 255) hl (i := p) (by omega)
    rw [cond_pos h]
    simp (disch := omega) only [okIx_e, xlen_e, chk_pos, cond_pos, xget_e, i2n_e, w64]
    exact ⟨_, _, rfl, g⟩
  · rw [cond_neg h, cond_neg (by omega), show okShift .u64 40 = true from by decide, chk_t]
    refine ⟨_, _, rfl, ?_⟩
    generalize ishr _ _ = y
    have g := and255 y
    rw [iwrap_e, w64 (by omega) (by omega)]
    exact g

theorem tmod_pick {v m : Int} (h : 0 ≤ v) (hm : 2 ≤ m) : 0 ≤ v.tmod m ∧ v.tmod m ≤ m - 1 := by
  rw [Int.tmod_eq_emod_of_nonneg h]
  have h3 := Int.emod_nonneg v (show m ≠ 0 by omega)
  have h4 := Int.emod_lt_of_pos v (show 0 < m by omega)
  omega

theorem pick_ok (l : List Int) (hl : ∀ x ∈ l, 0 ≤ x ∧ x ≤ 255) (p : Nat) (hp : (p : Int) ≤ 100000) (s m : Int) (hm : m ≤ 1000000) :
    ∃ (v s' : Int) (p' : Nat), F_s_l00Src_pick ((l, ((p : Int), s)), m) = some (v, (l, ((p' : Int), s'))) ∧ p' ≤ p + 2 ∧ 0 ≤ v ∧ (v ≤ m - 1 ∨ m ≤ 1 ∧ v = 0) := by
  unfold F_s_l00Src_pick
  simp only [ile_e, igt_e]
  by_cases h1 : m ≤ 1
  · rw [cond_pos h1]
    exact ⟨0, s, p, rfl, by omega, by omega, .inr ⟨h1, rfl⟩⟩
  · rw [cond_neg h1]
    obtain ⟨v, s1, e1, v1, v2⟩ := next_ok l hl p (by omega) s
    simp only [e1, bind_s]
    by_cases h2 : 200 < m
    · rw [cond_pos h2]
      obtain ⟨u, s2, e2, u1, u2⟩ := next_ok l hl (p + 1) (by omega) s1
      simp (disch := omega) only [e2, bind_s, okDiv_e, chk_pos, irem_e, iadd_e, imul_e, w64]
      have := tmod_pick (v := v * 256 + u) (m := m) (by omega) (by omega)
      exact ⟨_, _, _, rfl, by omega, this.1, .inl this.2⟩
    · rw [cond_neg h2]
      simp (disch := omega) only [okDiv_e, chk_pos, irem_e]
      have := tmod_pick (v := v) (m := m) (by omega) (by omega)
      exact ⟨_, _, _, rfl, by omega, this.1, .inl this.2⟩

theorem one_ok (l : List Int) (hl : ∀ x ∈ l, 0 ≤ x ∧ x ≤ 255) (p : Nat) (hp : (p : Int) ≤ 100000) (s m : Int) (hm : m ≤ 1000000) :
    ∃ (c : Bool) (s' : Int) (p' : Nat), F_s_l00Src_one ((l, ((p : Int), s)), m) = some (c, (l, ((p' : Int), s'))) ∧ p' ≤ p + 2 := by
  unfold F_s_l00Src_one
  obtain ⟨v, s1, p1, e1, h1, _⟩ := pick_ok l hl p hp s m hm
  simp only [e1, bind_s]
  exact ⟨_, _, _, rfl, h1⟩

theorem among_ok (l : List Int) (hl : ∀ x ∈ l, 0 ≤ x ∧ x ≤ 255) (p : Nat) (hp : (p : Int) ≤ 100000) (s : Int) (xs : List Int) (hx : 1 ≤ xs.length ∧ xs.length ≤ 100) :
    ∃ (v s' : Int) (p' : Nat), F_s_l00Src_among ((l, ((p : Int), s)), xs) = some (v, (l, ((p' : Int), s'))) ∧ p' ≤ p + 2 ∧ v ∈ xs := by
  unfold F_s_l00Src_among
  obtain ⟨v, s1, p1, e1, h1, v1, v2⟩ := pick_ok l hl p hp s (xs.length : Int) (by omega)
  simp only [n2i_e, xlen_e, e1, bind_s]
  have hv : v.toNat < xs.length := by omega
  simp (disch := omega) only [okIx_e, chk_pos, xget_e]
  refine ⟨_, s1, p1, rfl, h1, ?_⟩
  rw [show i2n v = v.toNat from rfl, getD_lt hv]
  exact List.getElem_mem hv

theorem wf_u8s {f : Bool} {T : TypeId} {xs : List Int} (h : wf (.row f T (.int .u8)) xs) : ∀ x ∈ xs, 0 ≤ x ∧ x ≤ 255 := by
  intro x hx
  have h2 : (Lit.int .u8 x).wf = true := h.2 x hx
  simp only [Lit.wf, Bool.and_eq_true, decide_eq_true_eq] at h2
  have e1 : IntKind.min .u8 = 0 := by decide
  have e2 : IntKind.max .u8 = 255 := by decide
  omega

def a2v (y : List Int) (i : Nat) (m : Int) : Int := if (y.length : Int) ≤ i then 0 else (y.getD i 0).tmod m

theorem a2At_v (y : List Int) (hy : ∀ x ∈ y, 0 ≤ x ∧ x ≤ 255) (hn : y.length ≤ 3000) (i : Nat) (m : Int) (hm : 2 ≤ m ∧ m ≤ 1000) : F_l_a2At (y, ((i : Int), m)) = some (a2v y i m) ∧ 0 ≤ a2v y i m ∧ a2v y i m ≤ m - 1 := by
  unfold F_l_a2At a2v
  simp only [n2i_e, xlen_e, ige_e]
  by_cases h : (y.length : Int) ≤ i
  · rw [cond_pos h, if_pos h]
    exact ⟨rfl, by omega, by omega⟩
  · rw [cond_neg h, if_neg h]
    have g := getD_all (p := fun d => 0 ≤ d ∧ d ≤ 255) hy (i := i) (by omega)
    simp (disch := omega) only [ilt_e, cond_neg, okIx_e, xlen_e, chk_pos, okDiv_e, xget_e, i2n_e, w64, irem_e]
    exact ⟨trivial, tmod_pick g.1 hm.1⟩


theorem valL_16 {b : Int} (hb : 2 ≤ b ∧ b ≤ 16) : ∀ {l : List Int}, digitsOk b l → valL b l ≤ 16 ^ l.length - 1
  | [], _ => by simp [valL]
  | d :: r, h => by
    have ih := valL_16 hb (l := r) (fun x hx => h x (List.mem_cons_of_mem _ hx))
    have h0 := valL_nonneg (b := b) (by omega) (l := r) (fun x hx => h x (List.mem_cons_of_mem _ hx))
    have hd := h d List.mem_cons_self
    have hm := Int.mul_le_mul_of_nonneg_right hb.2 h0
    have e : valL b (d :: r) = d + b * valL b r := rfl
    rw [e, List.length_cons, Int.pow_succ]
    generalize (16 : Int) ^ r.length = P at ih ⊢
    generalize b * valL b r = Q at hm ⊢
    omega
theorem valid6 {b : Int} {l : List Int} (hb : 2 ≤ b ∧ b ≤ 16) (hl : 1 ≤ l.length ∧ l.length ≤ 6) (hd : digitsOk b l) : validR (b, l) = true := by
  refine validR_of hb ⟨hl.1, by omega⟩ hd ?_
  have h1 := valL_16 hb hd
  have h2 := (pow_le (b := 16) (by omega) hl.2).2
  have h3 : (16 : Int) ^ 6 = 16777216 := by decide
  omega

/- rows -/
theorem row_ix {b : Nat} (h : 2 ≤ b ∧ b ≤ 16) {c x y : Int} (hc : 0 ≤ c ∧ c ≤ 1) (hx : 0 ≤ x ∧ x ≤ (b : Int) - 1) (hy : 0 ≤ y ∧ y ≤ (b : Int) - 1) : rowT b (ixT b c x y) = (c, (x, (y, ((x + y + c).tmod b, (x + y + c).tdiv b)))) := by
  obtain ⟨_, _, _, _, r5⟩ := ixT_in h hc hx hy
  rw [r5, rowT_at (c := c.toNat) (x := x.toNat) (y := y.toNat) (by omega) (by omega)]
  have e : (x + y + c) = ((c.toNat + x.toNat + y.toNat : Nat) : Int) := by omega
  rw [e, n_tmod, n_tdiv, show ((c.toNat : Nat) : Int) = c by omega, show ((x.toNat : Nat) : Int) = x by omega, show ((y.toNat : Nat) : Int) = y by omega]

theorem ix_split {b k : Nat} (h : 2 ≤ b ∧ b ≤ 16) (hk : k < 2 * b * b) : ∃ c x y : Int, (0 ≤ c ∧ c ≤ 1) ∧ (0 ≤ x ∧ x ≤ (b : Int) - 1) ∧ (0 ≤ y ∧ y ≤ (b : Int) - 1) ∧ k = ixT b c x y := by
  have h1 : k / b < 2 * b := Nat.div_lt_of_lt_mul (by rw [Nat.mul_comm b]; exact hk)
  have h2 : k / b / b < 2 := Nat.div_lt_of_lt_mul (by rw [Nat.mul_comm b]; exact h1)
  have h3 := Nat.mod_lt (k / b) (show 0 < b by omega)
  have h4 := Nat.mod_lt k (show 0 < b by omega)
  have e1 := Nat.div_add_mod k b
  have e2 := Nat.div_add_mod (k / b) b
  have key : ∀ C X Y : Nat, C < 2 → X < b → Y < b → b * C + X = k / b → b * (k / b) + Y = k → ∃ c x y : Int, (0 ≤ c ∧ c ≤ 1) ∧ (0 ≤ x ∧ x ≤ (b : Int) - 1) ∧ (0 ≤ y ∧ y ≤ (b : Int) - 1) ∧ k = ixT b c x y := by
    intro C X Y hC hX hY g1 g2
    refine ⟨(C : Int), (X : Int), (Y : Int), by omega, by omega, by omega, ?_⟩
    obtain ⟨_, _, _, _, r5⟩ := ixT_in h (c := (C : Int)) (x := (X : Int)) (y := (Y : Int)) (by omega) (by omega) (by omega)
    rw [r5]
    simp only [Int.toNat_natCast]
    rw [Nat.mul_comm C b, g1, Nat.mul_comm (k / b) b, g2]
  exact key _ _ _ h2 h3 h4 e2 e1

theorem row_in {b : Nat} (h : 2 ≤ b ∧ b ≤ 16) {c x y : Int} (hc : 0 ≤ c ∧ c ≤ 1) (hx : 0 ≤ x ∧ x ≤ (b : Int) - 1) (hy : 0 ≤ y ∧ y ≤ (b : Int) - 1) : (0 ≤ (x + y + c).tmod b ∧ (x + y + c).tmod b ≤ (b : Int) - 1) ∧ (0 ≤ (x + y + c).tdiv b ∧ (x + y + c).tdiv b ≤ 1) :=
  ⟨tmod_pick (by omega) (by omega), td_in (by omega) (by omega) (by omega)⟩

theorem formB_len {b : Nat} {t : List Row5} (h : formB b t = true) : t.length = 2 * b * b := by
  simp only [formB, Bool.and_eq_true, decide_eq_true_eq] at h
  exact h.1

theorem formB_tab {b : Nat} (h : 2 ≤ b ∧ b ≤ 16) : formB b (tabT b (2 * b * b)) = true := by
  simp only [formB, Bool.and_eq_true, decide_eq_true_eq, List.all_eq_true, List.mem_range, tabT_len]
  refine ⟨trivial, fun k hk => ?_⟩
  simp only [rowOk, Bool.and_eq_true, decide_eq_true_eq]
  rw [tabT_get b hk]
  obtain ⟨c, x, y, hc, hx, hy, rfl⟩ := ix_split h hk
  rw [row_ix h hc hx hy]
  obtain ⟨r1, r2⟩ := row_in h hc hx hy
  exact ⟨rfl, rfl, rfl, r1, r2⟩

theorem byS_right {b : Nat} (h : 2 ≤ b ∧ b ≤ 16) {l m : List Int} (hl : digitsOk b l) (hm : digitsOk b m) (he : l.length = m.length) : ∀ k, k ≤ l.length → byS (tabT b (2 * b * b)) b l m k = (carr b l m k, sumL b l m k)
  | 0, _ => by simp [byS, carr, sumL]
  | k + 1, hk => by
    have ih := byS_right h hl hm he k (by omega)
    obtain ⟨i1, _, _⟩ := byS_in h (formB_tab h) hl hm he k (by omega)
    have g1 := getD_all (p := fun d => 0 ≤ d ∧ d ≤ (b : Int) - 1) hl (i := k) (by omega)
    have g2 := getD_all (p := fun d => 0 ≤ d ∧ d ≤ (b : Int) - 1) hm (i := k) (by omega)
    rw [ih] at i1
    obtain ⟨_, r2, _⟩ := ixT_in h i1 g1 g2
    unfold byS
    rw [ih, tabT_get b r2, row_ix h i1 g1 g2, sumL_succ]
    rfl

theorem tab_ok {b : Nat} (h : 2 ≤ b ∧ b ≤ 16) {t : List Row5} (ht : formB b t = true) {l m : List Int} (hl : digitsOk b l) (hm : digitsOk b m) (he : l.length = m.length) (hn : 1 ≤ l.length ∧ l.length ≤ 6) :
    pairC ((b : Int), l) ((b : Int), m) = 0 ∧ byTabR t ((b : Int), l) ((b : Int), m) = (((b : Int), (byS t b l m l.length).2), (byS t b l m l.length).1, 0) ∧ addR ((b : Int), l) ((b : Int), m) = (((b : Int), sumL b l m l.length), carr b l m l.length, 0) := by
  have v1 := valid6 (b := (b : Int)) (by omega) hn hl
  have v2 := valid6 (b := (b : Int)) (l := m) (by omega) (by omega) hm
  have hp : pairC ((b : Int), l) ((b : Int), m) = 0 := by
    unfold pairC
    rw [v1, v2]
    simp [he]
  obtain ⟨_, i2, i3⟩ := byS_in h ht hl hm he l.length (Nat.le_refl _)
  obtain ⟨_, j2, j3⟩ := byS_in h (formB_tab h) hl hm he l.length (Nat.le_refl _)
  rw [byS_right h hl hm he l.length (Nat.le_refl _)] at j2 j3
  have v3 := valid6 (b := (b : Int)) (by omega) (by rw [i2]; exact hn) i3
  have v4 := valid6 (b := (b : Int)) (l := sumL b l m l.length) (by omega) (by rw [sumL_len]; exact hn) j3
  refine ⟨hp, ?_, ?_⟩
  · unfold byTabR
    rw [if_pos hp]
    simp only [Int.toNat_natCast]
    rw [ht]
    unfold wholeR
    simp only [cond_t]
    rw [v3]; rfl
  · unfold addR
    rw [if_pos hp]
    unfold wholeR
    simp only
    rw [v4]; rfl

/- the first wrong row -/
theorem first_ex (p : Nat → Bool) : ∀ n : Nat, (∀ i, i < n → p i = true) ∨ ∃ k, k < n ∧ p k = false ∧ ∀ j, j < k → p j = true
  | 0 => .inl (fun i hi => absurd hi (by omega))
  | n + 1 => by
    rcases first_ex p n with h | ⟨k, h1, h2, h3⟩
    · cases hp : p n with
      | true => exact .inl (fun i hi => by
          by_cases q : i = n
          · rw [q]; exact hp
          · exact h i (by omega))
      | false => exact .inr ⟨n, by omega, hp, h⟩
    · exact .inr ⟨k, by omega, h2, h3⟩

theorem band5 (a b : Row5) : bnot (band (ieq a.1 b.1) (band (ieq a.2.1 b.2.1) (band (ieq a.2.2.1 b.2.2.1) (band (ieq a.2.2.2.1 b.2.2.2.1) (band (ieq a.2.2.2.2 b.2.2.2.2) true))))) = decide (¬ a = b) := by
  obtain ⟨a1, a2, a3, a4, a5⟩ := a
  obtain ⟨b1, b2, b3, b4, b5⟩ := b
  simp only [ieq_e]
  by_cases h1 : a1 = b1 <;> by_cases h2 : a2 = b2 <;> by_cases h3 : a3 = b3 <;> by_cases h4 : a4 = b4 <;> by_cases h5 : a5 = b5 <;> simp [h1, h2, h3, h4, h5, bnot, band]

theorem i_wrongRow {b : Nat} (h : 2 ≤ b ∧ b ≤ 16) {t : List Row5} (ht : formB b t = true) :
    (t = tabT b (2 * b * b) ∧ F_i_wrongRow ((b : Int), t) = some (-1)) ∨ (∃ k, k < 2 * b * b ∧ ¬ t.getD k (((0 : Int), ((0 : Int), ((0 : Int), ((0 : Int), (0 : Int))))) : Int × Int × Int × Int × Int) = rowT b k ∧ (∀ j, j < k → t.getD j (((0 : Int), ((0 : Int), ((0 : Int), ((0 : Int), (0 : Int))))) : Int × Int × Int × Int × Int) = rowT b j) ∧ F_i_wrongRow ((b : Int), t) = some (k : Int)) := by
  have hlen := formB_len ht
  obtain ⟨q1, q2, q3⟩ := sq16 h
  have hn : 2 * b * b = 2 * (b * b) := Nat.mul_assoc 2 b b
  have htl := tabT_len b (2 * b * b)
  have hrun : ∀ k, k ≤ 2 * b * b → (∀ j, j < k → t.getD j (((0 : Int), ((0 : Int), ((0 : Int), ((0 : Int), (0 : Int))))) : Int × Int × Int × Int × Int) = rowT b j) → ∀ r, (k < 2 * b * b → ¬ t.getD k (((0 : Int), ((0 : Int), ((0 : Int), ((0 : Int), (0 : Int))))) : Int × Int × Int × Int × Int) = rowT b k ∧ r = (k : Int)) → (k = 2 * b * b → r = -1) → F_i_wrongRow ((b : Int), t) = some r := by
    intro k hk hj r hr1 hr2
    unfold F_i_wrongRow
    simp only [i_table b h, bind_s, n2i_e, xlen_e, htl]
    refine iter_run (fun i => (((2 * b * b : Nat) : Int), (i : Int), t, tabT b (2 * b * b))) k rfl (fun i hi => ?_) ?_
    · have hg := tabT_get b (show i < 2 * b * b by omega)
      simp (disch := omega) only [ilt_e, cond_pos, okIx_e, xlen_e, htl, chk_pos, xget_e, i2n_e, band5, hg]
      rw [cond_neg (fun q => q (hj i hi))]
      simp (disch := omega) only [iadd_e, w64]
      rfl
    · by_cases hk2 : k < 2 * b * b
      · obtain ⟨g1, g2⟩ := hr1 hk2
        have hg := tabT_get b hk2
        simp (disch := omega) only [ilt_e, cond_pos, okIx_e, xlen_e, htl, chk_pos, xget_e, i2n_e, band5, hg]
        first
          | rw [cond_pos g1, g2]
          | rw [g2]
      · simp (disch := omega) only [ilt_e, cond_neg]
        rw [hr2 (by omega)]
  rcases first_ex (fun i => decide (t.getD i (((0 : Int), ((0 : Int), ((0 : Int), ((0 : Int), (0 : Int))))) : Int × Int × Int × Int × Int) = rowT b i)) (2 * b * b) with hall | ⟨k, h1, h2, h3⟩
  · left
    have hall' : ∀ j, j < 2 * b * b → t.getD j (((0 : Int), ((0 : Int), ((0 : Int), ((0 : Int), (0 : Int))))) : Int × Int × Int × Int × Int) = rowT b j := fun j hj => by simpa using hall j hj
    refine ⟨?_, hrun _ (Nat.le_refl _) hall' _ (fun q => absurd q (by omega)) (fun _ => rfl)⟩
    apply List.ext_getElem (by rw [htl, hlen])
    intro i g1 g2
    have e := hall' i (by omega)
    rw [getD_lt g1] at e
    have e2 := tabT_get b (show i < 2 * b * b by omega)
    rw [getD_lt g2] at e2
    rw [e, e2]
  · right
    have h2' : ¬ t.getD k (((0 : Int), ((0 : Int), ((0 : Int), ((0 : Int), (0 : Int))))) : Int × Int × Int × Int × Int) = rowT b k := by simpa using h2
    exact ⟨k, h1, h2', fun j hj => by simpa using h3 j hj, hrun k (by omega) (fun j hj => by simpa using h3 j hj) _ (fun _ => ⟨h2', rfl⟩) (fun q => absurd q (by omega))⟩

theorem i_tcode {b : Nat} (h : 2 ≤ b ∧ b ≤ 16) {t : List Row5} (ht : formB b t = true) : F_i_tableCode ((b : Int), t) = some 0 := by
  have hlen := formB_len ht
  obtain ⟨q1, q2, q3⟩ := sq16 h
  have hn : 2 * b * b = 2 * (b * b) := Nat.mul_assoc 2 b b
  unfold F_i_tableCode
  simp only [isBase_e, bind_s]
  rw [decide_eq_true (by omega), bnot_t, cond_f, i_form b t h (by omega), ht]
  rfl

/- the witness -/
theorem witness {b : Nat} (h : 2 ≤ b ∧ b ≤ 16) {t : List Row5} (ht : formB b t = true) {k : Nat} (hk : k < 2 * b * b) (hne : ¬ t.getD k (((0 : Int), ((0 : Int), ((0 : Int), ((0 : Int), (0 : Int))))) : Int × Int × Int × Int × Int) = rowT b k) (hlt : ∀ j, j < k → t.getD j (((0 : Int), ((0 : Int), ((0 : Int), ((0 : Int), (0 : Int))))) : Int × Int × Int × Int × Int) = rowT b j) (hw : F_i_wrongRow ((b : Int), t) = some (k : Int)) :
    ∃ l m, F_i_TableWitness ((b : Int), t) = some (((b : Int), l), (((b : Int), m), 0)) ∧ (1 ≤ l.length ∧ l.length ≤ 2) ∧ l.length = m.length ∧ digitsOk b l ∧ digitsOk b m ∧ ¬ ((byS t b l m l.length).2 = sumL b l m l.length ∧ (byS t b l m l.length).1 = carr b l m l.length) := by
  have hlen := formB_len ht
  obtain ⟨q1, q2, q3⟩ := sq16 h
  have hn : 2 * b * b = 2 * (b * b) := Nat.mul_assoc 2 b b
  obtain ⟨f1, f2, f3, f4, f5⟩ := formB_row ht (i := k) (by omega)
  obtain ⟨c, x, y, hc, hx, hy, hkk⟩ := ix_split h hk
  have hr := row_ix h hc hx hy
  rw [← hkk] at hr
  rw [hr] at f1 f2 f3 hne
  simp only at f1 f2 f3
  have hcode := i_tcode h ht
  unfold F_i_TableWitness
  simp only [hcode, hw, bind_s, ine_e, not_true_eq_false, decide_false, cond_f, ilt_e]
  rw [cond_neg (by omega)]
  simp (disch := omega) only [okIx_e, xlen_e, chk_pos, xget_e, i2n_e, ieq_e, f1, f2, f3, isub_e, w64]
  have one : ∀ d : Int, 0 ≤ d ∧ d ≤ (b : Int) - 1 → digitsOk b [d] := fun d hd z hz => by
    rw [List.mem_singleton] at hz; rw [hz]; exact hd
  have two : ∀ d e : Int, 0 ≤ d ∧ d ≤ (b : Int) - 1 → 0 ≤ e ∧ e ≤ (b : Int) - 1 → digitsOk b [d, e] := fun d e hd he z hz => by
    simp only [List.mem_cons, List.not_mem_nil, or_false] at hz
    rcases hz with rfl | rfl
    · exact hd
    · exact he
  have row_eq : ∀ d e : Int, (t.getD k (((0 : Int), ((0 : Int), ((0 : Int), ((0 : Int), (0 : Int))))) : Int × Int × Int × Int × Int)).2.2.2.1 = d → (t.getD k (((0 : Int), ((0 : Int), ((0 : Int), ((0 : Int), (0 : Int))))) : Int × Int × Int × Int × Int)).2.2.2.2 = e → t.getD k (((0 : Int), ((0 : Int), ((0 : Int), ((0 : Int), (0 : Int))))) : Int × Int × Int × Int × Int) = (c, (x, (y, (d, e)))) := fun d e hd he => by
    rw [← f1, ← f2, ← f3, ← hd, ← he]
  by_cases hc1 : c = 1
  · subst hc1
    rw [cond_pos rfl]
    refine ⟨_, _, rfl, ⟨by simp, by simp⟩, by simp, two _ _ (by omega) hx, two _ _ (by omega) hy, ?_⟩
    have r0 := row_ix h (c := 0) (x := (b : Int) - 1) (y := 1) (by omega) (by omega) (by omega)
    have ix0 := ixT_in h (c := 0) (x := (b : Int) - 1) (y := 1) (by omega) (by omega) (by omega)
    have ix1 := ixT_in h hc hx hy
    have hjk : ixT b 0 ((b : Int) - 1) 1 < k := by
      have e1 := ix0.2.2.2.2
      have e2 := ix1.2.2.2.2
      rw [hkk, e1, e2]
      have e3 : (((b : Int) - 1).toNat) = b - 1 := by omega
      rw [e3, show (0 : Int).toNat = 0 from rfl, show (1 : Int).toNat = 1 from rfl, Nat.zero_mul, Nat.zero_add, Nat.one_mul, Nat.add_mul]
      have e4 : (b - 1) * b = b * b - b := by rw [Nat.sub_mul, Nat.one_mul]
      omega
    have hz := hlt _ hjk
    rw [r0] at hz
    have e5 : ((b : Int) - 1 + 1 + 0) = b := by omega
    have e6 : (b : Int).tdiv b = 1 := Int.tdiv_self (by omega)
    have e7 : (b : Int).tmod b = 0 := Int.tmod_self
    rw [e5, e6, e7] at hz
    have b1 : byS t b [(b : Int) - 1, x] [1, y] 1 = (1, [0]) := by
      simp only [byS, List.getD_cons_zero, hz]; rfl
    have b2 : byS t b [(b : Int) - 1, x] [1, y] 2 = ((t.getD k (((0 : Int), ((0 : Int), ((0 : Int), ((0 : Int), (0 : Int))))) : Int × Int × Int × Int × Int)).2.2.2.2, [0, (t.getD k (((0 : Int), ((0 : Int), ((0 : Int), ((0 : Int), (0 : Int))))) : Int × Int × Int × Int × Int)).2.2.2.1]) := by
      show ((t.getD (ixT b (byS t b [(b : Int) - 1, x] [1, y] 1).1 x y) (((0 : Int), ((0 : Int), ((0 : Int), ((0 : Int), (0 : Int))))) : Int × Int × Int × Int × Int)).2.2.2.2, (byS t b [(b : Int) - 1, x] [1, y] 1).2 ++ [(t.getD (ixT b (byS t b [(b : Int) - 1, x] [1, y] 1).1 x y) (((0 : Int), ((0 : Int), ((0 : Int), ((0 : Int), (0 : Int))))) : Int × Int × Int × Int × Int)).2.2.2.1]) = _
      rw [b1]
      simp only
      rw [← hkk]; rfl
    have c1 : carr b [(b : Int) - 1, x] [1, y] 1 = 1 := by
      show ((b : Int) - 1 + 1 + 0).tdiv b = 1
      rw [e5, e6]
    have c2 : carr b [(b : Int) - 1, x] [1, y] 2 = (x + y + 1).tdiv b := by
      show (x + y + carr b [(b : Int) - 1, x] [1, y] 1).tdiv b = _
      rw [c1]
    have s2 : sumL b [(b : Int) - 1, x] [1, y] 2 = [0, (x + y + 1).tmod b] := by
      show [((b : Int) - 1 + 1 + 0).tmod b, (x + y + carr b [(b : Int) - 1, x] [1, y] 1).tmod b] = _
      rw [c1, e5, e7]
    have hl2 : ([(b : Int) - 1, x] : List Int).length = 2 := rfl
    rw [hl2, b2, c2, s2]
    rintro ⟨g1, g2⟩
    refine hne (row_eq _ _ ?_ g2)
    simpa using g1
  · have hc0 : c = 0 := by omega
    subst hc0
    rw [cond_neg (by omega)]
    refine ⟨_, _, rfl, ⟨by simp, by simp⟩, by simp, one _ hx, one _ hy, ?_⟩
    have b1 : byS t b [x] [y] 1 = ((t.getD k (((0 : Int), ((0 : Int), ((0 : Int), ((0 : Int), (0 : Int))))) : Int × Int × Int × Int × Int)).2.2.2.2, [(t.getD k (((0 : Int), ((0 : Int), ((0 : Int), ((0 : Int), (0 : Int))))) : Int × Int × Int × Int × Int)).2.2.2.1]) := by
      show ((t.getD (ixT b 0 x y) (((0 : Int), ((0 : Int), ((0 : Int), ((0 : Int), (0 : Int))))) : Int × Int × Int × Int × Int)).2.2.2.2, [] ++ [(t.getD (ixT b 0 x y) (((0 : Int), ((0 : Int), ((0 : Int), ((0 : Int), (0 : Int))))) : Int × Int × Int × Int × Int)).2.2.2.1]) = _
      rw [← hkk]; rfl
    have c1 : carr b [x] [y] 1 = (x + y + 0).tdiv b := rfl
    have s1 : sumL b [x] [y] 1 = [(x + y + 0).tmod b] := rfl
    have hl1 : ([x] : List Int).length = 1 := rfl
    rw [hl1, b1, c1, s1]
    rintro ⟨g1, g2⟩
    refine hne (row_eq _ _ ?_ g2)
    simpa using g1

/- drawn tables -/
theorem drawTable_ok (l : List Int) (hl : ∀ x ∈ l, 0 ≤ x ∧ x ≤ 255) : ∃ r : Int × List Row5 × List Int × Int × Int, F_s_l08DrawTable (l, (0, 0)) = some r ∧ (r.2.1.length : Int) ≤ 1000 := by
  unfold F_s_l08DrawTable
  obtain ⟨v, s1, p1, e1, h1, v1, v2⟩ := pick_ok l hl 0 (by omega) 0 9 (by omega)
  have e1' : F_s_l00Src_pick ((l, (0, 0)), 9) = some (v, (l, ((p1 : Int), s1))) := e1
  simp only [e1', bind_s]
  obtain ⟨b, hb⟩ : ∃ b : Nat, (b : Int) = 2 + v := ⟨(2 + v).toNat, by omega⟩
  have eb : iadd .i64 2 v = (b : Int) := by rw [iadd_e, w64 (by omega) (by omega)]; omega
  have hb' : 2 ≤ b ∧ b ≤ 16 := by omega
  have hb10 : b ≤ 10 := by omega
  obtain ⟨q1, q2, q3⟩ := sq16 hb'
  have hn : 2 * b * b = 2 * (b * b) := Nat.mul_assoc 2 b b
  have ebb : imul .i64 (b : Int) (b : Int) = ((b * b : Nat) : Int) := by rw [imul_e, ← Int.natCast_mul, w64 (by omega) (by omega)]
  rw [eb, s_table b hb']
  simp only [bind_s]
  obtain ⟨n, s2, p2, e2, h2, n1, n2⟩ := pick_ok l hl p1 (by omega) s1 3 (by omega)
  simp only [e2, bind_s]
  obtain ⟨N, hN⟩ : ∃ N : Nat, (N : Int) = n := ⟨n.toNat, by omega⟩
  rw [← hN]
  refine iter_ex (fun i (s : Int × Int × Int × Int × List Int × List Row5) => ∃ (q : Nat) (s' : Int) (t : List Row5), s = ((b : Int), ((N : Int) - i, ((q : Int), (s', (l, t))))) ∧ q ≤ p2 + 20 * i ∧ t.length = 2 * b * b) (fun r : Int × List Row5 × List Int × Int × Int => (r.2.1.length : Int) ≤ 1000) N (fun i s hi ⟨q, s', t, hs, hq, ht⟩ => ?_) (fun s ⟨q, s', t, hs, hq, ht⟩ => ?_) N 0 _ (by omega) ⟨p2, s2, tabT b (2 * b * b), by simp, by omega, tabT_len _ _⟩
  · subst hs
    left
    have hN2 : N ≤ 2 := by omega
    obtain ⟨w, s3, p3, e3, h3, w1, w2⟩ := pick_ok l hl q (by omega) s' (t.length : Int) (by omega)
    obtain ⟨o, s4, p4, e4, h4⟩ := one_ok l hl p3 (by omega) s3 2 (by omega)
    have hw : w < t.length := by omega
    simp (disch := omega) only [igt_e, cond_pos, n2i_e, xlen_e, e3, e4, bind_s]
    have fin : ∀ (q : Nat) (s' : Int) (t' : List Row5), q ≤ p2 + 20 * i + 20 → t'.length = 2 * b * b → ∃ s'' : Int × Int × Int × Int × List Int × List Row5, some (Sum.inl ((b : Int), (isub .i64 ((N : Int) - i) 1, ((q : Int), (s', (l, t'))))) : (Int × Int × Int × Int × List Int × List Row5) ⊕ (Int × List Row5 × List Int × Int × Int)) = some (.inl s'') ∧ ∃ (q : Nat) (s' : Int) (t : List Row5), s'' = ((b : Int), ((N : Int) - ((i + 1 : Nat) : Int), ((q : Int), (s', (l, t))))) ∧ q ≤ p2 + 20 * (i + 1) ∧ t.length = 2 * b * b := by
      intro q s' t' hq ht
      refine ⟨_, rfl, q, s', t', ?_, by omega, ht⟩
      rw [isub_e, w64 (by omega) (by omega)]
      rw [show (N : Int) - i - 1 = (N : Int) - ((i + 1 : Nat) : Int) by omega]
    cases o with
    | true =>
      simp only [cond_t, ebb]
      obtain ⟨u, s5, p5, e5, h5, u1, u2⟩ := pick_ok l hl p4 (by omega) s4 ((b * b : Nat) : Int) (by omega)
      obtain ⟨o2, s6, p6, e6, h6⟩ := one_ok l hl p5 (by omega) s5 2 (by omega)
      have hu : u < ((b * b : Nat) : Int) := by omega
      have eu : iadd .i64 ((b * b : Nat) : Int) u = ((b * b : Nat) : Int) + u := by rw [iadd_e, w64 (by omega) (by omega)]
      simp only [e5, e6, bind_s, eu]
      cases o2 with
      | true =>
        obtain ⟨z, s7, p7, e7, h7, _⟩ := pick_ok l hl p6 (by omega) s6 (b : Int) (by omega)
        simp (disch := omega) only [cond_t, e7, bind_s, okIx_e, xlen_e, chk_pos, share_e, xset_e]
        exact fin _ _ _ (by omega) (by rw [List.length_set]; exact ht)
      | false =>
        simp (disch := omega) only [cond_f, okIx_e, xlen_e, chk_pos, share_e, xset_e]
        exact fin _ _ _ (by omega) (by rw [List.length_set]; exact ht)
    | false =>
      obtain ⟨o2, s6, p6, e6, h6⟩ := one_ok l hl p4 (by omega) s4 2 (by omega)
      simp only [cond_f, e6, bind_s]
      cases o2 with
      | true =>
        obtain ⟨z, s7, p7, e7, h7, _⟩ := pick_ok l hl p6 (by omega) s6 (b : Int) (by omega)
        simp (disch := omega) only [cond_t, e7, bind_s, okIx_e, xlen_e, chk_pos, share_e, xset_e]
        exact fin _ _ _ (by omega) (by rw [List.length_set]; exact ht)
      | false =>
        simp (disch := omega) only [cond_f, okIx_e, xlen_e, chk_pos, share_e, xset_e]
        exact fin _ _ _ (by omega) (by rw [List.length_set]; exact ht)
  · subst hs
    have hN2 : N ≤ 2 := by omega
    obtain ⟨w, s3, p3, e3, h3, _⟩ := pick_ok l hl q (by omega) s' 20 (by omega)
    simp (disch := omega) only [igt_e, cond_neg, e3, bind_s, ieq_e]
    by_cases c0 : w = 0
    · rw [cond_pos c0]
      simp (disch := omega) only [n2i_e, xlen_e, isub_e, w64, okTo_e, chk_pos, map_s]
      refine ⟨_, rfl, ?_⟩
      simp only [xsub_e, List.length_drop, List.length_take]
      omega
    · rw [cond_neg c0]
      by_cases c1 : w = 1
      · rw [cond_pos c1]
        obtain ⟨v', s5, p5, e5, h5, _⟩ := among_ok l hl p3 (by omega) s3 [-1, (b : Int)] (by simp)
        simp (disch := omega) only [e5, bind_s, okIx_e, xlen_e, chk_pos, share_e, xset_e, map_s]
        refine ⟨_, rfl, ?_⟩
        simp only [List.length_set]
        omega
      · rw [cond_neg c1]
        by_cases c2 : w = 2
        · rw [cond_pos c2]
          obtain ⟨v', s5, p5, e5, h5, _⟩ := among_ok l hl p3 (by omega) s3 [1, iadd .i64 (b : Int) 1, 17] (by simp)
          simp only [e5, bind_s, map_s]
          refine ⟨_, rfl, ?_⟩
          simp only
          omega
        · rw [cond_neg c2]
          refine ⟨_, rfl, ?_⟩
          simp only
          omega

theorem a2Table_ok (x : List Int) (hx : ∀ z ∈ x, 0 ≤ z ∧ z ≤ 255) : ∃ (b : Nat) (t : List Row5), F_s_A2Table x = some ((b : Int), t) ∧ (2 ≤ b ∧ b ≤ 16) ∧ formB b t = true := by
  unfold F_s_A2Table F_s_l00From F_s_l08Code
  obtain ⟨⟨b, t, src⟩, e, hl⟩ := drawTable_ok x hx
  simp only at hl
  simp only [bind_s, e, base_e]
  have dflt : ∃ (b : Nat) (t : List Row5), (Option.bind (F_s_l08Table 10) fun r5 => some ((10 : Int), r5)) = some ((b : Int), t) ∧ (2 ≤ b ∧ b ≤ 16) ∧ formB b t = true := by
    have := s_table 10 (by omega)
    have h10 : F_s_l08Table 10 = some (tabT 10 (2 * 10 * 10)) := this
    rw [h10]
    exact ⟨10, tabT 10 (2 * 10 * 10), rfl, by omega, formB_tab (by omega)⟩
  by_cases hb : 2 ≤ b ∧ b ≤ 16
  · obtain ⟨n, hn⟩ : ∃ n : Nat, (n : Int) = b := ⟨b.toNat, by omega⟩
    subst hn
    rw [decide_eq_true hb, bnot_t, cond_f, s_form n t (by omega) (by omega)]
    simp only [bind_s]
    cases hf : formB n t with
    | true => exact ⟨n, t, rfl, by omega, hf⟩
    | false => exact dflt
  · rw [decide_eq_false hb]
    exact dflt

/- the law -/
def digs (y : List Int) (b : Int) (o i : Nat) : List Int := (List.range i).map fun k => a2v y (2 * k + o) b
theorem digs_len (y : List Int) (b : Int) (o i : Nat) : (digs y b o i).length = i := by simp [digs]
theorem digs_succ (y : List Int) (b : Int) (o i : Nat) : digs y b o (i + 1) = digs y b o i ++ [a2v y (2 * i + o) b] := by
  simp only [digs]; rw [List.range_succ, List.map_append]; rfl
theorem digs_ok (y : List Int) (hy : ∀ x ∈ y, 0 ≤ x ∧ x ≤ 255) (hn : y.length ≤ 3000) (b : Int) (hb : 2 ≤ b ∧ b ≤ 16) (o i : Nat) : digitsOk b (digs y b o i) := by
  intro d hd
  simp only [digs, List.mem_map, List.mem_range] at hd
  obtain ⟨k, _, rfl⟩ := hd
  exact (a2At_v y hy hn (2 * k + o) b (by omega)).2

theorem law_Tables (x y : List Int) (hx : ∀ z ∈ x, 0 ≤ z ∧ z ≤ 255) (hy : ∀ z ∈ y, 0 ≤ z ∧ z ≤ 255) : F_l_FnTables (x, y) = some true := by
  unfold F_l_FnTables F_l_a2Long
  simp only [igt_e, n2i_e, xlen_e]
  by_cases c1 : 3000 < (x.length : Int)
  · rw [cond_pos c1]; rfl
  rw [cond_neg c1]
  simp only [bind_s]
  by_cases c2 : 3000 < (y.length : Int)
  · rw [cond_pos c2]
  rw [cond_neg c2]
  obtain ⟨b, t, e, hb, ht⟩ := a2Table_ok x hx
  have hlen := formB_len ht
  obtain ⟨q1, q2, q3⟩ := sq16 hb
  have hn : 2 * b * b = 2 * (b * b) := Nat.mul_assoc 2 b b
  have hcode := i_tcode hb ht
  simp only [e, bind_s]
  unfold F_i_TableFault
  simp only [hcode, bind_s, ine_e, not_true_eq_false, decide_false, cond_f]
  rcases i_wrongRow hb ht with ⟨hT, hw⟩ | ⟨k, hk, hne, hlt, hw⟩
  · have hwit : F_i_TableWitness ((b : Int), t) = some (((0 : Int), ([] : List Int)), (((0 : Int), ([] : List Int)), 3)) := by
      unfold F_i_TableWitness
      simp only [hcode, hw, bind_s, ine_e, not_true_eq_false, decide_false, cond_f, ilt_e]
      rw [cond_pos (by omega)]
    simp only [hw, hwit, bind_s, not_true_eq_false, decide_false, cond_f, ilt_e]
    rw [cond_pos (by omega)]
    refine iter_run (fun i => ((b : Int), (-1 : Int), (3 : Int), (i : Int), y, t, digs y b 0 i, digs y b 1 i)) 6 (by simp [digs]) (fun i hi => ?_) ?_
    · have e0 : imul .i64 2 (i : Int) = ((2 * i + 0 : Nat) : Int) := by rw [imul_e, w64 (by omega) (by omega)]; omega
      have e1 : iadd .i64 ((2 * i + 0 : Nat) : Int) 1 = ((2 * i + 1 : Nat) : Int) := by rw [iadd_e, w64 (by omega) (by omega)]; omega
      have a0 := (a2At_v y hy (by omega) (2 * i + 0) (b : Int) (by omega)).1
      have a1 := (a2At_v y hy (by omega) (2 * i + 1) (b : Int) (by omega)).1
      have l0 := digs_len y b 0 i
      have l1 := digs_len y b 1 i
      simp only [e0, e1, a0, a1, bind_s]
      simp (disch := omega) only [cond_pos, okRoom_e, xlen_e, l0, l1, List.length_cons, List.length_nil, chk_pos, xapp_e, iadd_e, w64, digs_succ]
      rfl
    · have l0 := digs_len y b 0 6
      have l1 := digs_len y b 1 6
      have d0 := digs_ok y hy (by omega) b (by omega) 0 6
      have d1 := digs_ok y hy (by omega) b (by omega) 1 6
      obtain ⟨t1, t2, t3⟩ := tab_ok hb ht d0 d1 (by rw [l0, l1]) (by rw [l0]; omega)
      have hS := byS_right hb d0 d1 (by rw [l0, l1]) 6 (by rw [l0]; omega)
      rw [l0, hT, hS] at t2
      rw [l0] at t3
      have r1 := i_byTable t ((b : Int), digs y b 0 6) ((b : Int), digs y b 1 6) (by omega) (by simp only [l0]; omega) (by simp only [l1]; omega)
      have r2 := s_addRegisters ((b : Int), digs y b 0 6) ((b : Int), digs y b 1 6) (by simp only [l0]; omega) (by simp only [l1]; omega)
      rw [hT, t2, ← hT] at r1
      rw [t3] at r2
      have r3 := s_sameR ((b : Int), sumL b (digs y b 0 6) (digs y b 1 6) 6) ((b : Int), sumL b (digs y b 0 6) (digs y b 1 6) 6) (by simp only [sumL_len]; omega) (by simp only [sumL_len]; omega)
      unfold F_s_SameRegister
      simp (disch := omega) only [cond_neg, r1, r2, r3, bind_s, ieq_e, decide_true, cond_t, map_s]
  · obtain ⟨l, m, hwit, hll, he, hdl, hdm, hdiff⟩ := witness hb ht hk hne hlt hw
    obtain ⟨t1, t2, t3⟩ := tab_ok hb ht hdl hdm he (by omega)
    have r1 := i_byTable t ((b : Int), l) ((b : Int), m) (by omega) (by simp only; omega) (by simp only; omega)
    have r2 := s_addRegisters ((b : Int), l) ((b : Int), m) (by simp only; omega) (by simp only; omega)
    rw [t2] at r1
    rw [t3] at r2
    obtain ⟨_, i2, _⟩ := byS_in hb ht hdl hdm he l.length (Nat.le_refl _)
    have r3 := s_sameR ((b : Int), (byS t b l m l.length).2) ((b : Int), sumL b l m l.length) (by simp only [i2]; omega) (by simp only [sumL_len]; omega)
    have v1 := valid6 (b := (b : Int)) (by omega) (show 1 ≤ l.length ∧ l.length ≤ 6 by omega) hdl
    have v2 := valid6 (b := (b : Int)) (l := m) (by omega) (by omega) hdm
    have w1 := s_validR ((b : Int), l) (by simp only; omega)
    have w2 := s_validR ((b : Int), m) (by simp only; omega)
    rw [v1] at w1
    rw [v2] at w2
    unfold F_s_SameRegister F_s_ValidRegister
    simp (disch := omega) only [hw, hwit, bind_s, not_true_eq_false, decide_false, cond_f, ilt_e, cond_neg, ige_e, w1, w2, bnot_t, r1, r2, ieq_e, decide_true, cond_t, r3]
    by_cases hs : (byS t b l m l.length).2 = sumL b l m l.length
    · have hc : ¬ (byS t b l m l.length).1 = carr b l m l.length := fun q => hdiff ⟨hs, q⟩
      rw [decide_eq_true (by rw [hs]), decide_eq_true (p := ¬ (byS t b l m l.length).1 = carr b l m l.length) hc]
      rfl
    · rw [decide_eq_false (fun q => hs (congrArg Prod.snd q))]
      rfl

theorem FnTables_true {t1 t2 : TypeId} (x : List Int × List Int) (h : wfArgs [.val false (.row false t1 (.int .u8)), .val false (.row false t2 (.int .u8))] x) : ∃ y, F_l_FnTables x = some y ∧ hhead .bool [] y = true :=
  ⟨true, law_Tables x.1 x.2 (wf_u8s h.1) (wf_u8s h.2.1), rfl⟩

end Go.Prg
