/- Plain laws, part Uf: machines unpacked. Conditions: none. -/
import Derived.Test.YtjkaapoklbhokaaPlUe
set_option linter.all false
namespace Go.Prg
open Go.Eng

def tk (L : List Int) : Reg := cond (enough L) (regN L) zeroR
def restL (L : List Int) : List Int := cond (enough L) (L.drop (1 + (wN L + 1) / 2)) []

theorem tk_len (L : List Int) (h : ∀ x ∈ L, 0 ≤ x ∧ x ≤ 255) : ((tk L).2.length : Int) ≤ 16 := by
  obtain ⟨_, w2, _⟩ := wN_in h
  unfold tk
  cases enough L with
  | false => simp
  | true => simp only [cond_t, regN, nibs_len]; omega
theorem restL_in {L : List Int} (h : ∀ x ∈ L, 0 ≤ x ∧ x ≤ 255) : ∀ x ∈ restL L, 0 ≤ x ∧ x ≤ 255 := by
  unfold restL
  cases enough L with
  | false => simp
  | true => exact fun x hx => h x (List.mem_of_mem_drop hx)
theorem restL_len (L : List Int) : (restL L).length ≤ L.length := by
  unfold restL
  cases enough L with
  | false => simp
  | true => simp only [cond_t, List.length_drop]; omega

theorem i_take3 (s : ByteArray) (h : (toL s).length ≤ 2000000) : ∃ r, F_i_takeRegister s = some (tk (toL s), (r, enough (toL s))) ∧ toL r = restL (toL s) := by
  rw [i_take s h]
  unfold tk restL
  cases enough (toL s) with
  | false => exact ⟨_, rfl, rfl⟩
  | true => exact ⟨_, rfl, by rw [ssub_e, List.take_length]; rfl⟩
theorem s_take3 (s : ByteArray) (h : (toL s).length ≤ 2000000) : ∃ r, F_s_l27Register s = some (tk (toL s), (r, enough (toL s) && padB (toL s))) ∧ toL r = restL (toL s) := by
  rw [s_take s h]
  unfold tk restL
  cases enough (toL s) with
  | false => exact ⟨_, rfl, rfl⟩
  | true => exact ⟨_, rfl, by rw [ssub_e, List.take_length]; rfl⟩

theorem pack_take3 {B : List Int} (hB : ∀ x ∈ B, 0 ≤ x ∧ x ≤ 255) (he : enough B = true) (hp : padB B = true) : B = packR (tk B).1 (tk B).2 ++ restL B := by
  obtain ⟨w1, w2, w3⟩ := wN_in hB
  have hl : 1 + (wN B + 1) / 2 ≤ B.length := by
    simp only [enough, Bool.and_eq_true, decide_eq_true_eq] at he
    exact he.2
  unfold tk restL
  rw [he]
  simp only [cond_t, regN]
  have hlen := packR_len (bN B) (nibs B (wN B))
  rw [nibs_len] at hlen
  have key : packR (bN B) (nibs B (wN B)) = B.take (1 + (wN B + 1) / 2) := by
    refine ext_getD (by rw [List.length_take]; omega) fun i hi => ?_
    have ht : (B.take (1 + (wN B + 1) / 2)).getD i 0 = B.getD i 0 := by
      rw [List.getD_eq_getElem?_getD, List.getElem?_take, if_pos (by omega), List.getD_eq_getElem?_getD]
    rw [ht]
    cases i with
    | zero =>
      simp only [packR, List.getD_cons_zero, nibs_len]
      unfold bN; omega
    | succ j =>
      have hj : j < (wN B + 1) / 2 := by omega
      have e : (packR (bN B) (nibs B (wN B))).getD (j + 1) 0 = digB (nibs B (wN B)) j := by
        rw [List.getD_eq_getElem?_getD]
        simp [packR, packD, nibs_len, hj]
      have g := getD_byte hB (j + 1)
      rw [e]
      unfold digB
      rw [nibs_get B (k := 2 * j) (by omega), if_pos (by omega), show 1 + 2 * j / 2 = j + 1 by omega]
      by_cases h1 : 2 * j + 1 < wN B
      · rw [nibs_get B h1, if_neg (by omega), show 1 + (2 * j + 1) / 2 = j + 1 by omega]
        omega
      · rw [show (nibs B (wN B)).getD (2 * j + 1) 0 = 0 by rw [List.getD_eq_getElem?_getD, List.getElem?_eq_none (by rw [nibs_len]; omega)]; rfl]
        have hj2 : (wN B + 1) / 2 = j + 1 := by omega
        have : B.getD (j + 1) 0 % 16 = 0 := by
          unfold padB at hp
          rw [hj2] at hp
          simp only [Bool.or_eq_true, decide_eq_true_eq] at hp
          rcases hp with hp | hp
          · omega
          · exact hp
        omega
  rw [key, List.take_append_drop]

def en3 (D : List Int) : Bool := enough D && (enough (restL D) && enough (restL (restL D)))
def pad3 (D : List Int) : Bool := padB D && (padB (restL D) && padB (restL (restL D)))
def mach3 (D : List Int) (p : Int) : Mach := (tk D, tk (restL D), tk (restL (restL D)), p)
def rest3 (D : List Int) : List Int := restL (restL (restL D))

theorem t1_pack {w : Int} {l : List Int} (hw : 2 ≤ w ∧ w ≤ 16) (hl : 1 ≤ l.length ∧ l.length ≤ 16) (d : digitsOk w l) (rest : List Int) : enough (packR w l ++ rest) = true ∧ padB (packR w l ++ rest) = true ∧ tk (packR w l ++ rest) = (w, l) ∧ restL (packR w l ++ rest) = rest := by
  obtain ⟨t1, t2, t3, t4, t5⟩ := take_pack hw hl d rest
  refine ⟨t3, t4, ?_, ?_⟩
  · unfold tk; rw [t3]; exact t2
  · unfold restL; rw [t3, t1]; exact t5

theorem t3_pack {w : Int} {la lb lc : List Int} (hw : 2 ≤ w ∧ w ≤ 16) (hla : 1 ≤ la.length ∧ la.length ≤ 16) (hlb : 1 ≤ lb.length ∧ lb.length ≤ 16) (hlc : 1 ≤ lc.length ∧ lc.length ≤ 16) (da : digitsOk w la) (db : digitsOk w lb) (dc : digitsOk w lc) (rest : List Int) {D : List Int} (h : D = packR w la ++ (packR w lb ++ (packR w lc ++ rest))) :
    en3 D = true ∧ pad3 D = true ∧ (∀ p, mach3 D p = ((w, la), (w, lb), (w, lc), p)) ∧ rest3 D = rest := by
  subst h
  obtain ⟨a1, a2, a3, a4⟩ := t1_pack hw hla da (packR w lb ++ (packR w lc ++ rest))
  obtain ⟨b1, b2, b3, b4⟩ := t1_pack hw hlb db (packR w lc ++ rest)
  obtain ⟨c1, c2, c3, c4⟩ := t1_pack hw hlc dc rest
  refine ⟨?_, ?_, fun p => ?_, ?_⟩
  · unfold en3; rw [a4, b4, a1, b1, c1]; rfl
  · unfold pad3; rw [a4, b4, a2, b2, c2]; rfl
  · unfold mach3; rw [a4, b4, a3, b3, c3]
  · unfold rest3; rw [a4, b4, c4]

theorem t3_unpack {D : List Int} (h : ∀ x ∈ D, 0 ≤ x ∧ x ≤ 255) (he : en3 D = true) (hp : pad3 D = true) (p : Int) : D = packR (mach3 D p).1.1 (mach3 D p).1.2 ++ (packR (mach3 D p).2.1.1 (mach3 D p).2.1.2 ++ (packR (mach3 D p).2.2.1.1 (mach3 D p).2.2.1.2 ++ rest3 D)) := by
  unfold en3 at he
  unfold pad3 at hp
  simp only [Bool.and_eq_true] at he hp
  have e1 := pack_take3 h he.1 hp.1
  have e2 := pack_take3 (restL_in h) he.2.1 hp.2.1
  have e3 := pack_take3 (restL_in (restL_in h)) he.2.2 hp.2.2
  unfold mach3 rest3
  simp only
  rw [← e3, ← e2]
  exact e1

theorem packM_in {m : Mach} (hv : validM m = true) : ∀ x ∈ packM m.1 m.2.1 m.2.2.1 m.2.2.2, 0 ≤ x ∧ x ≤ 255 := by
  obtain ⟨a, b, c, p⟩ := m
  obtain ⟨w, la, lb, lc, rfl, rfl, rfl, hw, hla, hlb, hlc, da, db, dc, hp⟩ := packM_parts hv
  have q1 := packR_in hw hla da
  have q2 := packR_in hw hlb db
  have q3 := packR_in hw hlc dc
  intro x hx
  simp only [packM, List.mem_append, List.mem_cons, List.not_mem_nil, or_false] at hx
  rcases hx with ((hx | hx) | hx) | hx
  · omega
  · exact q1 x hx
  · exact q2 x hx
  · exact q3 x hx

theorem packM_cons (a b c : Reg) (p : Int) : packM a b c p = 77 :: p :: (packR a.1 a.2 ++ (packR b.1 b.2 ++ packR c.1 c.2)) := by
  simp [packM, List.append_assoc]

def specM (L : List Int) : Bool :=
  sealedB 77 L && (!decide (bodyL L = []) && (en3 ((bodyL L).drop 1) && (pad3 ((bodyL L).drop 1) && (decide (rest3 ((bodyL L).drop 1) = []) && validM (mach3 ((bodyL L).drop 1) ((bodyL L).getD 0 0))))))
def unpackM (L : List Int) : Mach × Int := cond (specM L) (mach3 ((bodyL L).drop 1) ((bodyL L).getD 0 0), 0) (zeroM, 8)

theorem bodyL_seal (k : Int) (l : List Int) : bodyL (sealL (k :: l)) = l := by
  have e : (sealL (k :: l)).length - 2 = (k :: l).length := by simp [sealL]
  unfold bodyL
  rw [e]
  unfold sealL
  rw [List.take_left']
  · rfl
  · rfl

theorem drop2_aux (B T : List Int) (x : Int) (h : B = x :: B.drop 1) : (77 :: (B ++ T)).drop 2 = B.drop 1 ++ T := by
  cases B with
  | nil => cases h
  | cons y r => rfl

theorem unpackM_iff {L : List Int} (h : ∀ x ∈ L, 0 ≤ x ∧ x ≤ 255) : (2 ≤ L.length ∧ en3 (L.drop 2) = true ∧ validM (mach3 (L.drop 2) (L.getD 1 0)) = true ∧ sealL (packM (mach3 (L.drop 2) (L.getD 1 0)).1 (mach3 (L.drop 2) (L.getD 1 0)).2.1 (mach3 (L.drop 2) (L.getD 1 0)).2.2.1 (mach3 (L.drop 2) (L.getD 1 0)).2.2.2) = L) ↔ specM L = true := by
  unfold specM
  simp only [Bool.and_eq_true, decide_eq_true_eq, Bool.not_eq_true', decide_eq_false_iff_not]
  constructor
  · rintro ⟨h1, h2, h3, h4⟩
    generalize mach3 (L.drop 2) (L.getD 1 0) = m at *
    obtain ⟨a, b, c, p⟩ := m
    obtain ⟨w, la, lb, lc, rfl, rfl, rfl, hw, hla, hlb, hlc, da, db, dc, hp⟩ := packM_parts h3
    simp only at h4
    rw [packM_cons] at h4
    have hb : bodyL L = p :: (packR w la ++ (packR w lb ++ packR w lc)) := by rw [← h4, bodyL_seal]
    have hlen : 3 ≤ L.length := by rw [← h4]; simp only [sealL, List.length_append, List.length_cons, List.length_nil]; omega
    have hd : (bodyL L).drop 1 = packR w la ++ (packR w lb ++ (packR w lc ++ [])) := by rw [hb, List.append_nil]; rfl
    obtain ⟨t1, t2, t3, t4⟩ := t3_pack hw hla hlb hlc da db dc [] hd
    refine ⟨(sealed_form h).2 ⟨hlen, by rw [hb]; exact h4.symm⟩, by rw [hb]; simp, t1, t2, t4, ?_⟩
    rw [t3, hb]
    exact h3
  · rintro ⟨h1, h2, h3, h4, h5, h6⟩
    obtain ⟨h7, h8⟩ := (sealed_form h).1 h1
    have hB : ∀ x ∈ bodyL L, 0 ≤ x ∧ x ≤ 255 := take_in h _ _
    have hB1 : ∀ x ∈ (bodyL L).drop 1, 0 ≤ x ∧ x ≤ 255 := fun x hx => hB x (List.mem_of_mem_drop hx)
    have hu := t3_unpack hB1 h3 h4 ((bodyL L).getD 0 0)
    rw [h5] at hu
    have hb : bodyL L = (bodyL L).getD 0 0 :: (bodyL L).drop 1 := by
      cases hq : bodyL L with
      | nil => exact absurd hq h2
      | cons x r => rfl
    have hlen : 4 ≤ L.length := by
      have := congrArg List.length hb
      rw [bodyL_len] at this
      simp only [List.length_cons] at this
      omega
    have g1 : L.getD 1 0 = (bodyL L).getD 0 0 := by
      conv => lhs; rw [h8, hb]
      rfl
    generalize hm : mach3 ((bodyL L).drop 1) ((bodyL L).getD 0 0) = m at *
    obtain ⟨a, b, c, p⟩ := m
    obtain ⟨w, la, lb, lc, rfl, rfl, rfl, hw, hla, hlb, hlc, da, db, dc, hp⟩ := packM_parts h6
    simp only [List.append_nil] at hu
    have hpp : (bodyL L).getD 0 0 = p := congrArg (fun m : Mach => m.2.2.2) hm
    have hd : L.drop 2 = packR w la ++ (packR w lb ++ (packR w lc ++ [(sumN (77 :: bodyL L) (77 :: bodyL L).length).tdiv 256, (sumN (77 :: bodyL L) (77 :: bodyL L).length).tmod 256])) := by
      have this : L.drop 2 = (bodyL L).drop 1 ++ [(sumN (77 :: bodyL L) (77 :: bodyL L).length).tdiv 256, (sumN (77 :: bodyL L) (77 :: bodyL L).length).tmod 256] :=
        Eq.trans (congrArg (List.drop 2) h8) (drop2_aux (bodyL L) _ _ hb)
      rw [this, hu, List.append_assoc, List.append_assoc]
    obtain ⟨t1, t2, t3, t4⟩ := t3_pack hw hla hlb hlc da db dc _ hd
    refine ⟨by omega, t1, ?_, ?_⟩
    · rw [t3, g1, hpp]; exact h6
    · rw [t3, g1, hpp]
      simp only
      rw [packM_cons]
      have : p :: (packR w la ++ (packR w lb ++ packR w lc)) = bodyL L := by rw [← hu, ← hpp]; exact hb.symm
      simp only at this ⊢
      rw [this]
      exact h8.symm

theorem unpackM_same {L : List Int} (h : ∀ x ∈ L, 0 ≤ x ∧ x ≤ 255) (hs : specM L = true) : mach3 (L.drop 2) (L.getD 1 0) = mach3 ((bodyL L).drop 1) ((bodyL L).getD 0 0) := by
  obtain ⟨h1, h2, h3, h4⟩ := (unpackM_iff h).2 hs
  generalize mach3 (L.drop 2) (L.getD 1 0) = m at *
  obtain ⟨a, b, c, p⟩ := m
  obtain ⟨w, la, lb, lc, rfl, rfl, rfl, hw, hla, hlb, hlc, da, db, dc, hp⟩ := packM_parts h3
  simp only at h4
  rw [packM_cons] at h4
  have hb : bodyL L = p :: (packR w la ++ (packR w lb ++ packR w lc)) := by rw [← h4, bodyL_seal]
  have hd : (bodyL L).drop 1 = packR w la ++ (packR w lb ++ (packR w lc ++ [])) := by rw [hb, List.append_nil]; rfl
  obtain ⟨t1, t2, t3, t4⟩ := t3_pack hw hla hlb hlc da db dc [] hd
  rw [t3, hb]
  rfl

theorem s_unpackM (s : ByteArray) (h : (toL s).length ≤ 1048576) : F_s_UnpackMachine s = some (unpackM (toL s)) := by
  unfold F_s_UnpackMachine
  rw [s_body s 77 (by omega)]
  simp only [bind_s, unpackM, specM]
  cases hs : sealedB 77 (toL s) with
  | false => rfl
  | true =>
    simp only [cond_t, Bool.true_and, bnot_t, cond_f]
    have hb := bodyL_e s
    have hbl : (bodyL (toL s)).length ≤ 1048576 := by rw [bodyL_len]; omega
    have hB : ∀ x ∈ bodyL (toL s), 0 ≤ x ∧ x ≤ 255 := take_in (toL_in s) _ _
    generalize ssub s 1 ((toL s).length - 2) = t at hb ⊢
    generalize bodyL (toL s) = B at hb hbl hB ⊢
    rw [seq_nil, hb]
    by_cases h0 : B = []
    · rw [cond_pos h0, decide_eq_true h0]; rfl
    · rw [cond_neg h0, decide_eq_false h0]
      have hlen : 1 ≤ B.length := List.length_pos_iff.2 h0
      have e1 : i2n 1 = 1 := rfl
      have ez : i2n 0 = 0 := rfl
      have hd : toL (ssub t 1 B.length) = B.drop 1 := by rw [ssub_e, hb, List.take_length]
      have hB1 : ∀ x ∈ B.drop 1, 0 ≤ x ∧ x ≤ 255 := fun x hx => hB x (List.mem_of_mem_drop hx)
      have hl1 : (B.drop 1).length ≤ 1048576 := by rw [List.length_drop]; omega
      obtain ⟨r1, q1, p1⟩ := s_take3 (ssub t 1 B.length) (by rw [hd]; omega)
      rw [hd] at q1 p1
      have hl2 := restL_len (B.drop 1)
      obtain ⟨r2, q2, p2⟩ := s_take3 r1 (by rw [p1]; omega)
      rw [p1] at q2 p2
      have hl3 := restL_len (restL (B.drop 1))
      obtain ⟨r3, q3, p3⟩ := s_take3 r2 (by rw [p2]; omega)
      rw [p2] at q3 p3
      have g0 := getD_byte hB 0
      have m1 := tk_len _ hB1
      have m2 := tk_len _ (restL_in hB1)
      have m3 := tk_len _ (restL_in (restL_in hB1))
      simp (disch := omega) only [okTo_e, slen_e, hb, chk_pos, e1, q1, bind_s, q2, q3, okIx_e, ez, byteAt_e, iwrap_e, w64, sne_nil, p3, s_validM']
      unfold en3 pad3 mach3 rest3
      cases enough (B.drop 1) with
      | false => rfl
      | true =>
        cases padB (B.drop 1) with
        | false => simp
        | true =>
          cases enough (restL (B.drop 1)) with
          | false => rfl
          | true =>
            cases padB (restL (B.drop 1)) with
            | false => simp
            | true =>
              cases enough (restL (restL (B.drop 1))) with
              | false => rfl
              | true =>
                cases padB (restL (restL (B.drop 1))) with
                | false => rfl
                | true =>
                  simp only [Bool.and_self, Bool.true_and, bnot_t, cond_f, Bool.not_false]
                  by_cases h9 : restL (restL (restL (B.drop 1))) = []
                  · rw [cond_neg (fun q => q h9), decide_eq_true h9, Bool.true_and]
                    cases validM (tk (B.drop 1), tk (restL (B.drop 1)), tk (restL (restL (B.drop 1))), B.getD 0 0) <;> rfl
                  · rw [cond_pos (p := ¬ restL (restL (restL (B.drop 1))) = []) h9, decide_eq_false h9]; rfl

theorem i_unpackM (s : ByteArray) (h : (toL s).length ≤ 1048576) : F_i_UnpackMachine s = some (unpackM (toL s)) := by
  unfold F_i_UnpackMachine
  have hB := toL_in s
  have hi := unpackM_iff hB
  have hu := unpackM_same hB
  simp only [ilt_e, n2i_e, slen_e]
  by_cases h0 : 2 ≤ (toL s).length
  · rw [cond_neg (by omega)]
    have e1 : i2n 1 = 1 := rfl
    have e2 : i2n 2 = 2 := rfl
    have hd : toL (ssub s 2 (toL s).length) = (toL s).drop 2 := by rw [ssub_e, List.take_length]
    have hB1 : ∀ x ∈ (toL s).drop 2, 0 ≤ x ∧ x ≤ 255 := fun x hx => hB x (List.mem_of_mem_drop hx)
    have hl1 : ((toL s).drop 2).length ≤ 1048576 := by rw [List.length_drop]; omega
    obtain ⟨r1, q1, p1⟩ := i_take3 (ssub s 2 (toL s).length) (by rw [hd]; omega)
    rw [hd] at q1 p1
    have hl2 := restL_len ((toL s).drop 2)
    obtain ⟨r2, q2, p2⟩ := i_take3 r1 (by rw [p1]; omega)
    rw [p1] at q2 p2
    have hl3 := restL_len (restL ((toL s).drop 2))
    obtain ⟨r3, q3, p3⟩ := i_take3 r2 (by rw [p2]; omega)
    rw [p2] at q3 p3
    have g0 := getD_byte hB 1
    have m1 := tk_len _ hB1
    have m2 := tk_len _ (restL_in hB1)
    have m3 := tk_len _ (restL_in (restL_in hB1))
    simp (disch := omega) only [okTo_e, okIx_e, chk_pos, e1, e2, q1, bind_s, q2, q3, byteAt_e, iwrap_e, w64, i_packM]
    have hband : bnot (band (beqv (enough ((toL s).drop 2)) true) (band (beqv (enough (restL ((toL s).drop 2))) true) (band (beqv (enough (restL (restL ((toL s).drop 2)))) true) true))) = !en3 ((toL s).drop 2) := by
      unfold en3
      cases enough ((toL s).drop 2) <;> cases enough (restL ((toL s).drop 2)) <;> cases enough (restL (restL ((toL s).drop 2))) <;> rfl
    rw [hband]
    unfold unpackM packMR
    have hmm : (tk ((toL s).drop 2), tk (restL ((toL s).drop 2)), tk (restL (restL ((toL s).drop 2))), (toL s).getD 1 0) = mach3 ((toL s).drop 2) ((toL s).getD 1 0) := rfl
    have hno : ¬ (en3 ((toL s).drop 2) = true ∧ validM (mach3 ((toL s).drop 2) ((toL s).getD 1 0)) = true ∧ sealL (packM (mach3 ((toL s).drop 2) ((toL s).getD 1 0)).1 (mach3 ((toL s).drop 2) ((toL s).getD 1 0)).2.1 (mach3 ((toL s).drop 2) ((toL s).getD 1 0)).2.2.1 (mach3 ((toL s).drop 2) ((toL s).getD 1 0)).2.2.2) = toL s) → specM (toL s) = false := by
      intro hq
      cases hs : specM (toL s) with
      | false => rfl
      | true => exact absurd (hi.2 hs).2 hq
    cases he : en3 ((toL s).drop 2) with
    | false =>
      rw [hno (by rw [he]; simp)]; rfl
    | true =>
      rw [hmm]
      cases hv : validM (mach3 ((toL s).drop 2) ((toL s).getD 1 0)) with
      | false => rw [hno (by rw [hv]; simp)]; rfl
      | true =>
        simp only [Bool.not_true, cond_f, cond_t, ine_e, not_true_eq_false, decide_false, sne_e]
        have hbs : toL (b2s (sealL (packM (tk ((toL s).drop 2)) (tk (restL ((toL s).drop 2))) (tk (restL (restL ((toL s).drop 2)))) ((toL s).getD 1 0)))) = sealL (packM (mach3 ((toL s).drop 2) ((toL s).getD 1 0)).1 (mach3 ((toL s).drop 2) ((toL s).getD 1 0)).2.1 (mach3 ((toL s).drop 2) ((toL s).getD 1 0)).2.2.1 (mach3 ((toL s).drop 2) ((toL s).getD 1 0)).2.2.2) := b2s_e _ (sealL_in (packM_in (m := mach3 ((toL s).drop 2) ((toL s).getD 1 0)) hv))
        rw [hbs]
        by_cases hq : sealL (packM (mach3 ((toL s).drop 2) ((toL s).getD 1 0)).1 (mach3 ((toL s).drop 2) ((toL s).getD 1 0)).2.1 (mach3 ((toL s).drop 2) ((toL s).getD 1 0)).2.2.1 (mach3 ((toL s).drop 2) ((toL s).getD 1 0)).2.2.2) = toL s
        · have hs := hi.1 ⟨h0, he, hv, hq⟩
          rw [cond_neg (fun x => x hq), hs, ← hu hs]; rfl
        · rw [cond_pos (p := ¬ sealL (packM (mach3 ((toL s).drop 2) ((toL s).getD 1 0)).1 (mach3 ((toL s).drop 2) ((toL s).getD 1 0)).2.1 (mach3 ((toL s).drop 2) ((toL s).getD 1 0)).2.2.1 (mach3 ((toL s).drop 2) ((toL s).getD 1 0)).2.2.2) = toL s) hq, hno (fun x => hq x.2.2)]; rfl
  · rw [cond_pos (by omega)]
    have : specM (toL s) = false := by
      cases hs : specM (toL s) with
      | false => rfl
      | true => exact absurd (hi.2 hs).1 h0
    unfold unpackM
    rw [this]; rfl

theorem unpackM_len (L : List Int) (h : ∀ x ∈ L, 0 ≤ x ∧ x ≤ 255) : ((unpackM L).1.1.2.length : Int) ≤ 16 ∧ ((unpackM L).1.2.1.2.length : Int) ≤ 16 ∧ ((unpackM L).1.2.2.1.2.length : Int) ≤ 16 := by
  have hB : ∀ x ∈ (bodyL L).drop 1, 0 ≤ x ∧ x ≤ 255 := fun x hx => take_in h _ _ x (List.mem_of_mem_drop hx)
  have m1 := tk_len _ hB
  have m2 := tk_len _ (restL_in hB)
  have m3 := tk_len _ (restL_in (restL_in hB))
  unfold unpackM
  cases specM L with
  | false => simp
  | true => exact ⟨m1, m2, m3⟩

theorem law_UnpackMachine (s : ByteArray) (h : (s.size : Int) ≤ 9223372036854775807) : F_l_FnExactUnpackMachine s = some true := by
  unfold F_l_FnExactUnpackMachine
  have es := toL_len s
  have e2 : slen s = s.size := rfl
  simp only [igt_e, n2i_e, e2]
  by_cases hl : 1048576 < (s.size : Int)
  · rw [cond_pos hl]
  · rw [cond_neg hl]
    have h1 := s_unpackM s (by omega)
    have h2 := i_unpackM s (by omega)
    obtain ⟨hb1, hb2, hb3⟩ := unpackM_len (toL s) (toL_in s)
    simp (disch := omega) only [bind_s, h1, h2, eq_Machine, mark_M, held_M, decide_true, bnot_t, cond_f, ine_e, not_true_eq_false, decide_false, ilt_e, cond_neg]

theorem FnExactUnpackMachine_true (x : ByteArray) (h : wfArgs [.val false .str] x) : ∃ y, F_l_FnExactUnpackMachine x = some y ∧ hhead .bool [] y = true :=
  ⟨true, law_UnpackMachine x (maxLen_le (n := x.size) h.1), rfl⟩

end Go.Prg
