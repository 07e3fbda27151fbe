/- Plain laws, part Yb: a drawn machine, strokes counted. Conditions: none. -/
import Derived.Test.YtjkaapoklbhokaaPlY
import Derived.Test.YtjkaapoklbhokaaPlZd
set_option linter.all false
namespace Go.Prg
open Go.Eng

theorem among_ok (l : List Int) (hl : ∀ x ∈ l, 0 ≤ x ∧ x ≤ 255) (p : Nat) (hp : (p : Int) ≤ 100000) (s : Int) (xs : List Int) (hx : 1 ≤ xs.length ∧ xs.length ≤ 100) :
    ∃ (v s' : Int) (p' : Nat), F_s_l00Src_among ((l, ((p : Int), s)), xs) = some (v, (l, ((p' : Int), s'))) ∧ p' ≤ p + 2 ∧ v ∈ xs := by
  unfold F_s_l00Src_among
  obtain ⟨v, s1, p1, e1, h1, v1, v2⟩ := pick_ok l hl p hp s (xs.length : Int) (by omega)
  simp only [n2i_e, xlen_e, e1, bind_s]
  have hv : v.toNat < xs.length := by omega
  simp (disch := omega) only [okIx_e, chk_pos, xget_e]
  refine ⟨_, s1, p1, rfl, h1, ?_⟩
  rw [show i2n v = v.toNat from rfl, getD_lt hv]
  exact List.getElem_mem hv

/-- the shape of a machine -/
def shM (m : Mach) (w : Int) (a b c : Nat) : Prop := validM m = true ∧ m.1.1 = w ∧ m.1.2.length = a ∧ m.2.1.2.length = b ∧ m.2.2.1.2.length = c

theorem shM_parts {m : Mach} {w : Int} {a b c : Nat} (h : shM m w a b c) : ∃ (la lb lc : List Int) (p : Int), m = ((w, la), (w, lb), (w, lc), p) ∧ la.length = a ∧ lb.length = b ∧ lc.length = c ∧ (2 ≤ w ∧ w ≤ 16) ∧ digitsOk w la ∧ digitsOk w lb ∧ digitsOk w lc ∧
    fullB w b = true ∧ fullB w c = true ∧ (1 ≤ a ∧ a ≤ 16) ∧ (1 ≤ b ∧ b ≤ 16) ∧ (1 ≤ c ∧ c ≤ 16) ∧ (0 ≤ p ∧ p ≤ imin ((b : Int) - a + 1) c - 1) := by
  obtain ⟨h1, h2, h3, h4, h5⟩ := h
  obtain ⟨w', la, lb, lc, p, rfl, q1, q2, q3, q4, q5, q6, q7, q8, q9, _, q10, _⟩ := machine_parts2 h1
  simp only at h2 h3 h4 h5
  subst h2; subst h3; subst h4; subst h5
  exact ⟨la, lb, lc, p, rfl, rfl, rfl, rfl, q1, q5, q6, q7, q8, q9, q2, q3, q4, q10⟩

theorem stroke_sh {m : Mach} {w : Int} {a b c : Nat} (h : shM m w a b c) {k : Int} (hk : 1 ≤ k ∧ k ≤ 6) : shM (strokeMM m k).1 w a b c := by
  have hv := strokeMM_valid m k h.1 hk
  obtain ⟨la, lb, lc, p, rfl, rfl, rfl, rfl, _⟩ := shM_parts h
  refine ⟨hv, ?_⟩
  simp only [strokeMM, strokeM]
  split
  · simp [mvL_len]
  split
  · simp [mvL_len]
  split
  · split <;> simp
  split
  · split <;> simp
  split
  · simp [digL_len]
  · simp [digL_len]

theorem drawTail (l : List Int) (hl : ∀ x ∈ l, 0 ≤ x ∧ x ≤ 255) (w : Int) (la lb lc : List Int) (hv : ∀ p, (0 ≤ p ∧ p ≤ imin ((lb.length : Int) - la.length + 1) lc.length - 1) → validM ((w, la), (w, lb), (w, lc), p) = true) (h1 : la.length ≤ lb.length) (h2 : lb.length ≤ 16) (h3 : 1 ≤ lc.length ∧ lc.length ≤ 16) (p : Nat) (hp : (p : Int) ≤ 10000) (s : Int) :
    ∃ (m : Mach) (r : List Int × Int × Int), (Option.bind (F_s_l10Places ((w, la), ((w, lb), ((w, lc), (0 : Int))))) fun r9 =>
                    (Option.bind (F_s_l00Src_pick ((l, ((p : Int), s)), r9)) fun r10 =>
                      (Option.bind (F_s_l00Src_pick ((r10.2.1, r10.2.2), 5)) fun r11 =>
                        (iter (σ := (Int × (Int × (Int × ((List Int) × (Int × (Int × (Int × (Int × ((List Int) × ((List Int) × ((List Int) × (Int × (Int × (Int × (Int × ((List Int) × ((List Int) × (List Int))))))))))))))))))) (fun s12 =>
                          (cond (igt s12.1 0)
                            (Option.bind (F_s_l00Src_pick ((s12.2.2.2.1, (s12.2.1, s12.2.2.1)), 4)) fun r14 =>
                              (Option.bind (F_s_l10Do (((s12.2.2.2.2.2.2.2.2.2.2.2.1, s12.2.2.2.2.2.2.2.2.2.2.2.2.2.2.2.1), ((s12.2.2.2.2.2.2.2.2.2.2.2.2.1, s12.2.2.2.2.2.2.2.2.2.2.2.2.2.2.2.2.1), ((s12.2.2.2.2.2.2.2.2.2.2.2.2.2.1, s12.2.2.2.2.2.2.2.2.2.2.2.2.2.2.2.2.2), s12.2.2.2.2.2.2.2.2.2.2.2.2.2.2.1))), (iadd .i64 1 r14.1))) fun r15 =>
                                (some (.inl ((isub .i64 s12.1 1), (r14.2.2.1, (r14.2.2.2, (r14.2.1, (s12.2.2.2.2.1, (s12.2.2.2.2.2.1, (s12.2.2.2.2.2.2.1, (s12.2.2.2.2.2.2.2.1, (s12.2.2.2.2.2.2.2.2.1, (s12.2.2.2.2.2.2.2.2.2.1, (s12.2.2.2.2.2.2.2.2.2.2.1, (r15.2.1.1, (r15.2.2.1.1, (r15.2.2.2.1.1, (r15.2.2.2.2, (r15.2.1.2, (r15.2.2.1.2, r15.2.2.2.1.2)))))))))))))))))))))
                            (some (.inr (((s12.2.2.2.2.2.2.2.2.2.2.2.1, s12.2.2.2.2.2.2.2.2.2.2.2.2.2.2.2.1), ((s12.2.2.2.2.2.2.2.2.2.2.2.2.1, s12.2.2.2.2.2.2.2.2.2.2.2.2.2.2.2.2.1), ((s12.2.2.2.2.2.2.2.2.2.2.2.2.2.1, s12.2.2.2.2.2.2.2.2.2.2.2.2.2.2.2.2.2), s12.2.2.2.2.2.2.2.2.2.2.2.2.2.2.1))), (s12.2.2.2.1, (s12.2.1, s12.2.2.1)))))))
                          (r11.1, (r11.2.2.1, (r11.2.2.2, (r11.2.1, (0, (0, (0, (0, (([] : (List Int)), (([] : (List Int)), (([] : (List Int)), (w, (w, (w, (r10.1, (la, (lb, lc))))))))))))))))))))) = some (m, r) ∧ shM m w la.length lb.length lc.length := by
  have e1 := s_places (w, la) (w, lb) (w, lc) 0 (by simp only; omega) h2 h3.2
  have hpl : 1 ≤ placesM ((w, la), (w, lb), (w, lc), 0) ∧ placesM ((w, la), (w, lb), (w, lc), 0) ≤ 16 := by
    simp only [placesM, imin]
    split <;> omega
  obtain ⟨v, s1, p1, e2, q1, v1, v2⟩ := pick_ok l hl p (by omega) s (placesM ((w, la), (w, lb), (w, lc), 0)) (by omega)
  have hv0 : validM ((w, la), (w, lb), (w, lc), v) = true := hv v (by simp only [placesM] at hpl v2; omega)
  obtain ⟨k, s2, p2, e3, q2, k1, k2⟩ := pick_ok l hl p1 (by omega) s1 5 (by omega)
  simp only [e1, bind_s, e2, e3]
  refine ex_of (Q := fun r : Mach × List Int × Int × Int => shM r.1 w la.length lb.length lc.length) (o := iter _ _) ?_ (fun r h1 h2 => ⟨r.1, r.2, h1, h2⟩)
  refine iter_ex (f := _) (fun i t => ∃ (q : Nat) (s1 : Int) (m : Mach), t = (k - (i : Int), (q : Int), s1, l, (0 : Int), (0 : Int), (0 : Int), (0 : Int), ([] : List Int), ([] : List Int), ([] : List Int), m.1.1, m.2.1.1, m.2.2.1.1, m.2.2.2, m.1.2, m.2.1.2, m.2.2.1.2) ∧ q ≤ p2 + 2 * i ∧ shM m w la.length lb.length lc.length)
    _ k.toNat (fun i t hi ⟨q, s3, m, ht, hq, hm⟩ => ?_) (fun t ⟨q, s3, m, ht, hq, hm⟩ => ?_) k.toNat 0 _ (by omega) ⟨p2, s2, ((w, la), (w, lb), (w, lc), v), by simp, by omega, hv0, rfl, rfl, rfl, rfl⟩
  · subst ht
    left
    obtain ⟨u, s4, q4, e4, h4, u1, u2⟩ := pick_ok l hl q (by omega) s3 4 (by omega)
    have hk : iadd .i64 1 u = 1 + u := by rw [iadd_e, w64 (by omega) (by omega)]
    have hs := s_doMM m (1 + u) hm.1 (by omega)
    simp (disch := omega) only [igt_e, cond_pos, e4, bind_s, hk, hs, isub_e, w64]
    exact ⟨_, rfl, q4, s4, (strokeMM m (1 + u)).1, by rw [show k - ((i + 1 : Nat) : Int) = k - (i : Int) - 1 by omega], by omega, stroke_sh hm (by omega)⟩
  · subst ht
    simp (disch := omega) only [igt_e, cond_neg]
    exact ⟨_, rfl, hm⟩

theorem pow12 {w : Int} (hw : 2 ≤ w ∧ w ≤ 12) {n : Nat} (hn : n ≤ 8) : 1 ≤ w ^ n ∧ w ^ n ≤ 429981696 := by
  have key : ∀ (i : Fin 11) (k : Fin 9), 1 ≤ ((i.val : Int) + 2) ^ k.val ∧ ((i.val : Int) + 2) ^ k.val ≤ 429981696 := by decide
  have h := key ⟨(w - 2).toNat, by omega⟩ ⟨n, by omega⟩
  simp only at h
  rw [show (((w - 2).toNat : Nat) : Int) + 2 = w by omega] at h
  exact h
theorem pow12s {w : Int} (hw : 2 ≤ w ∧ w ≤ 12) {n : Nat} (hn : n ≤ 4) : 1 ≤ w ^ n ∧ w ^ n ≤ 20736 := by
  have key : ∀ (i : Fin 11) (k : Fin 5), 1 ≤ ((i.val : Int) + 2) ^ k.val ∧ ((i.val : Int) + 2) ^ k.val ≤ 20736 := by decide
  have h := key ⟨(w - 2).toNat, by omega⟩ ⟨n, by omega⟩
  simp only at h
  rw [show (((w - 2).toNat : Nat) : Int) + 2 = w by omega] at h
  exact h

theorem valid12 {w : Int} {l : List Int} (hw : 2 ≤ w ∧ w ≤ 12) (hl : 1 ≤ l.length ∧ l.length ≤ 8) (hd : digitsOk w l) : validR (w, l) = true := by
  have h1 := pow12 hw hl.2
  have h2 := valL_lt hw.1 hd
  exact validR_of (by omega) (by omega) hd (by omega)

theorem machine_ok (l : List Int) (hl : ∀ x ∈ l, 0 ≤ x ∧ x ≤ 255) : ∃ (m : Mach) (w : Int) (a b c : Nat), F_s_A2Machine l = some m ∧ shM m w a b c ∧ (2 ≤ w ∧ w ≤ 12) ∧ (1 ≤ a ∧ a ≤ 4) ∧ (1 ≤ b ∧ b ≤ 8) ∧ (1 ≤ c ∧ c ≤ 5) := by
  unfold F_s_A2Machine F_s_l00From F_s_l10Draw
  obtain ⟨w, s1, p1, e1, q1, hw0⟩ := among_ok l hl 0 (by omega) 0 [10, 10, 10, 2, 3, 8, 12] (by simp)
  have hw : 2 ≤ w ∧ w ≤ 12 := by
    simp only [List.mem_cons, List.not_mem_nil, or_false] at hw0
    omega
  have e1' : F_s_l00Src_among ((l, (0, 0)), (10 :: (10 :: (10 :: (2 :: (3 :: (8 :: (12 :: ([] : (List Int)))))))))) = some (w, (l, ((p1 : Int), s1))) := e1
  obtain ⟨v2, s2, p2, e2, q2, a1, a2⟩ := pick_ok l hl p1 (by omega) s1 4 (by omega)
  obtain ⟨v3, s3, p3, e3, q3, b1, b2⟩ := pick_ok l hl p2 (by omega) s2 5 (by omega)
  obtain ⟨v4, s4, p4, e4, q4, c1, c2⟩ := pick_ok l hl p3 (by omega) s3 5 (by omega)
  obtain ⟨na, hna⟩ : ∃ n : Nat, 1 + v2 = (n : Int) := ⟨(1 + v2).toNat, by omega⟩
  obtain ⟨nb, hnb⟩ : ∃ n : Nat, 1 + v2 + v3 = (n : Int) := ⟨(1 + v2 + v3).toNat, by omega⟩
  obtain ⟨nc, hnc⟩ : ∃ n : Nat, 1 + v4 = (n : Int) := ⟨(1 + v4).toNat, by omega⟩
  have i1 : iadd .i64 1 v2 = (na : Int) := by rw [iadd_e, w64 (by omega) (by omega)]; exact hna
  have i2 : iadd .i64 (na : Int) v3 = (nb : Int) := by rw [iadd_e, w64 (by omega) (by omega)]; omega
  have i3 : iadd .i64 1 v4 = (nc : Int) := by rw [iadd_e, w64 (by omega) (by omega)]; exact hnc
  have e5 := s_blank w (na : Int) (nb : Int) (nc : Int) (by omega) (by omega) (by omega) (by omega)
  obtain ⟨ds, s6, p6, e6, ⟨d1, d2⟩, q6⟩ := drawDigits_ok l hl p4 (by omega) s4 w (by omega) na (by omega)
  obtain ⟨cc, s7, p7, e7, q7⟩ := one_ok l hl p6 (by omega) s6 2 (by omega)
  have fb : ∀ n : Nat, n ≤ 8 → fullB w n = true := fun n hn => by
    have := pow12 hw hn
    simp only [fullB, decide_eq_true_eq]; omega
  have hz : ∀ n : Nat, digitsOk w (digL w 0 n) := fun n => digL_ok hw.1 (by omega) n
  have val : ∀ (lb : List Int), lb.length = nb → digitsOk w lb → ∀ p, (0 ≤ p ∧ p ≤ imin ((lb.length : Int) - ds.length + 1) ((digL w 0 nc).length : Int) - 1) → validM ((w, ds), (w, lb), (w, digL w 0 nc), p) = true := fun lb hb hd p hp =>
    validM_of (valid12 hw (by omega) d2) (valid12 hw (by omega) hd) (valid12 hw (by rw [digL_len]; omega) (hz nc)) (fb _ (by omega)) (fb _ (by rw [digL_len]; omega)) (by omega) hp
  simp only [bind_s, e1', e2, e3, e4, i1, i2, i3, e5, blankM, Int.toNat_natCast, e6, e7]
  cases cc with
  | true =>
    obtain ⟨rs, s8, p8, e8, ⟨r1, r2⟩, q8⟩ := drawDigits_ok l hl p7 (by omega) s7 w (by omega) nb (by omega)
    obtain ⟨m, r, e9, hm⟩ := drawTail l hl w ds rs (digL w 0 nc) (val rs r1 r2) (by omega) (by omega) (by rw [digL_len]; omega) p8 (by omega) s8
    rw [d1, r1, digL_len] at hm
    simp only [cond_t, e8, bind_s]
    rw [e9]
    exact ⟨m, w, na, nb, nc, rfl, hm, hw, by omega, by omega, by omega⟩
  | false =>
    obtain ⟨m, r, e9, hm⟩ := drawTail l hl w ds (digL w 0 nb) (digL w 0 nc) (val (digL w 0 nb) (digL_len _ _ _) (hz nb)) (by rw [digL_len]; omega) (by rw [digL_len]; omega) (by rw [digL_len]; omega) p7 (by omega) s7
    rw [d1, digL_len, digL_len] at hm
    simp only [cond_f]
    rw [e9]
    exact ⟨m, w, na, nb, nc, rfl, hm, hw, by omega, by omega, by omega⟩

end Go.Prg
