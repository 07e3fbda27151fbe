/- Plain laws, part Td: standard trials. Conditions: none. -/
import Derived.Test.YthiajmikeaolmaaPlTc
set_option linter.all false
namespace Go.Prg
open Go.Eng

/-- the trial of two rows of digits -/
def mkT (b : Int) (f : List Flt) (l m : List Int) : Trl := ((b, l), (b, m), (b, fsum b l m f l.length), fcar b l m f l.length)
def mapL (m : List (Int × Int)) (w : Nat) : List Int := (List.range w).map fun k : Nat => mgetR m k
theorem mapL_len (m : List (Int × Int)) (w : Nat) : (mapL m w).length = w := by simp [mapL]
theorem mapL_succ (m : List (Int × Int)) (w : Nat) : mapL m (w + 1) = mapL m w ++ [mgetR m w] := by
  simp only [mapL]; rw [List.range_succ, List.map_append]; rfl
theorem mapL_get (m : List (Int × Int)) {w k : Nat} (h : k < w) : (mapL m w).getD k 0 = mgetR m k := by
  simp [mapL, List.getD_eq_getElem?_getD, h]

theorem ext_getD {l m : List Int} (hl : l.length = m.length) (h : ∀ i, i < l.length → l.getD i 0 = m.getD i 0) : l = m := by
  apply List.ext_getElem hl
  intro i h1 h2
  have := h i h1
  rwa [getD_lt h1, getD_lt h2] at this

def zL (w : Nat) : List Int := List.replicate w 0
theorem zL_len (w : Nat) : (zL w).length = w := by simp [zL]
theorem zL_get (w k : Nat) : (zL w).getD k 0 = 0 := by
  by_cases h : k < w
  · simp [zL, List.getD_eq_getElem?_getD, h]
  · rw [List.getD_eq_getElem?_getD, List.getElem?_eq_none (by rw [zL_len]; omega)]; rfl
theorem zL_dig (b : Int) (w : Nat) (hb : 2 ≤ b) : digL b 0 w = zL w := by
  refine ext_getD (by rw [zL_len]; simp [digL]) fun i hi => ?_
  have hi' : i < w := by simpa [digL] using hi
  have hr := restI_in (b := b) (v := 0) hb (by omega) i
  rw [zL_get]
  have : (digL b 0 w).getD i 0 = (restI b 0 i).tmod b := by simp [digL, List.getD_eq_getElem?_getD, hi']
  rw [this, show restI b 0 i = 0 by omega]
  exact Int.zero_tmod b

theorem set_getI {l : List Int} {k : Nat} (h : k < l.length) (v : Int) (i : Nat) : (l.set k v).getD i 0 = if i = k then v else l.getD i 0 := set_get h

theorem mapL_nil (w : Nat) : mapL [] w = zL w := by
  refine ext_getD (by rw [mapL_len, zL_len]) fun i hi => ?_
  rw [mapL_len] at hi
  rw [mapL_get _ hi, zL_get]; rfl
theorem mapL_one {w k : Nat} (hk : k < w) (v : Int) : mapL (mputR [] k v) w = (zL w).set k v := by
  refine ext_getD (by rw [mapL_len, List.length_set, zL_len]) fun i hi => ?_
  rw [mapL_len] at hi
  rw [mapL_get _ hi, set_getI (by rw [zL_len]; exact hk), mget_mput, zL_get]
  by_cases h : i = k
  · rw [if_pos h, if_pos (by omega)]
  · rw [if_neg h, if_neg (by omega)]; rfl
theorem mapL_two {w k : Nat} (hk : k + 1 < w) (v : Int) : mapL (mputR (mputR [] (k : Int) v) ((k + 1 : Nat) : Int) v) w = ((zL w).set k v).set (k + 1) v := by
  refine ext_getD (by rw [mapL_len, List.length_set, List.length_set, zL_len]) fun i hi => ?_
  rw [mapL_len] at hi
  rw [mapL_get _ hi, set_getI (by rw [List.length_set, zL_len]; exact hk), set_getI (by rw [zL_len]; omega), mget_mput, mget_mput, zL_get]
  by_cases h : i = k + 1
  · rw [if_pos h, if_pos (by omega)]
  · rw [if_neg h, if_neg (by omega)]
    by_cases h2 : i = k
    · rw [if_pos h2, if_pos (by omega)]
    · rw [if_neg h2, if_neg (by omega)]; rfl

theorem zL_ok {b : Int} (hb : 2 ≤ b) (w : Nat) : digitsOk b (zL w) := by
  intro d hd
  have := List.eq_of_mem_replicate hd
  omega
theorem set_ok {b : Int} {l : List Int} (h : digitsOk b l) (k : Nat) {v : Int} (hv : 0 ≤ v ∧ v ≤ b - 1) : digitsOk b (l.set k v) := mem_set_all h hv

/-- the pairs of the standard trials -/
def p1 (b : Int) (w k : Nat) : List Int × List Int := ((zL w).set k (b - 1), (zL w).set k 1)
def p2 (b : Int) (w k : Nat) : List Int × List Int := (((zL w).set k (b - 1)).set (k + 1) (b - 1), (zL w).set k 1)
def prs (b : Int) (w : Nat) : Nat → List (List Int × List Int)
  | 0 => [(zL w, zL w)]
  | i + 1 => prs b w i ++ [if i < w then p1 b w i else p2 b w (i - w)]
theorem prs_len (b : Int) (w : Nat) : ∀ i, (prs b w i).length = i + 1
  | 0 => rfl
  | i + 1 => by unfold prs; rw [List.length_append, prs_len b w i]; rfl
def okP (b : Int) (w : Nat) (p : List Int × List Int) : Prop := p.1.length = w ∧ p.2.length = w ∧ digitsOk b p.1 ∧ digitsOk b p.2
theorem p1_ok {b : Int} (hb : 2 ≤ b) (w k : Nat) : okP b w (p1 b w k) :=
  ⟨by simp [p1, zL_len], by simp [p1, zL_len], set_ok (zL_ok hb w) k ⟨by omega, by omega⟩, set_ok (zL_ok hb w) k ⟨by omega, by omega⟩⟩
theorem p2_ok {b : Int} (hb : 2 ≤ b) (w k : Nat) : okP b w (p2 b w k) :=
  ⟨by simp [p2, zL_len], by simp [p2, zL_len], set_ok (set_ok (zL_ok hb w) k ⟨by omega, by omega⟩) _ ⟨by omega, by omega⟩, set_ok (zL_ok hb w) k ⟨by omega, by omega⟩⟩
theorem z_ok {b : Int} (hb : 2 ≤ b) (w : Nat) : okP b w (zL w, zL w) := ⟨zL_len w, zL_len w, zL_ok hb w, zL_ok hb w⟩
theorem prs_ok {b : Int} (hb : 2 ≤ b) (w : Nat) : ∀ i, ∀ p ∈ prs b w i, okP b w p
  | 0, p, hp => by
    have : p = (zL w, zL w) := by simpa [prs] using hp
    rw [this]; exact z_ok hb w
  | i + 1, p, hp => by
    unfold prs at hp
    rcases List.mem_append.1 hp with h | h
    · exact prs_ok hb w i p h
    · rw [List.mem_singleton] at h
      rw [h]
      split
      · exact p1_ok hb w i
      · exact p2_ok hb w _

def trlsL (b : Int) (f : List Flt) (l : List (List Int × List Int)) : List Trl := l.map fun p => mkT b f p.1 p.2
def stdL (b : Int) (w : Nat) (f : List Flt) : List Trl := trlsL b f (prs b w (2 * w - 1))
def stdR (b w : Int) (f : List Flt) : List Trl × Int :=
  if (2 ≤ b ∧ b ≤ 16) ∧ faultsB w f = true then cond (trialsB (stdL b w.toNat f)) (stdL b w.toNat f, 0) ([], 5) else ([], 2)

theorem trlsL_app (b : Int) (f : List Flt) (l : List (List Int × List Int)) (p : List Int × List Int) : trlsL b f (l ++ [p]) = trlsL b f l ++ [mkT b f p.1 p.2] := by simp [trlsL]
theorem trlsL_len (b : Int) (f : List Flt) (l : List (List Int × List Int)) : (trlsL b f l).length = l.length := by simp [trlsL]

theorem fW {w : Int} {f : List Flt} (h : faultsB w f = true) : 1 ≤ w ∧ w ≤ 16 := by
  simp only [faultsB, Bool.and_eq_true, decide_eq_true_eq] at h
  exact h.1

theorem trlsL_lens {b : Int} {f : List Flt} {l : List (List Int × List Int)} {w : Nat} (hw : w ≤ 16) (hl : l.length ≤ 100) (h : ∀ p ∈ l, okP b w p) : lenS (trlsL b f l) 1048576 := by
  refine ⟨by rw [trlsL_len]; omega, fun i hi => ?_⟩
  rw [trlsL_len] at hi
  have e : (trlsL b f l).getD i ((0, ([] : List Int)), ((0, ([] : List Int)), ((0, ([] : List Int)), 0))) = mkT b f l[i].1 l[i].2 := by
    rw [getD_lt (by rw [trlsL_len]; exact hi)]
    simp [trlsL]
  rw [e]
  obtain ⟨h1, h2, _⟩ := h l[i] (List.getElem_mem hi)
  have h3 := fsum_len b l[i].1 l[i].2 f l[i].1.length
  unfold lenT mkT
  simp only
  omega

theorem i_std1 (ma mb : List (Int × Int)) (b : Int) (w : Nat) (f : List Flt) (t : List Trl) (hb : 2 ≤ b ∧ b ≤ 16) (hw : w ≤ 16) (ha : digitsOk b (mapL ma w)) (hm : digitsOk b (mapL mb w)) (hf : (f.length : Int) ≤ 1048576) (ht : t.length ≤ 1000) :
    F_i_StandardTrials_1 (ma, (mb, (b, ((w : Int), (f, t))))) = some (b, ((w : Int), (f, t ++ [mkT b f (mapL ma w) (mapL mb w)]))) := by
  unfold F_i_StandardTrials_1
  refine iter_run (fun i => ((w : Int), (i : Int), ma, mb, f, t, b, b, (0 : Int), (0 : Int), mapL ma i, mapL mb i, ([] : List Int), b, (w : Int))) w (by simp [mapL]) (fun i hi => ?_) ?_
  · have l1 := mapL_len ma i
    have l2 := mapL_len mb i
    simp (disch := omega) only [ilt_e, cond_pos, okRoom_e, xlen_e, l1, l2, List.length_cons, List.length_nil, chk_pos, iadd_e, w64, xapp_e, mapL_succ, mget_e]
    rfl
  · have l1 := mapL_len ma w
    have l2 := mapL_len mb w
    have e := i_addedF b b (mapL ma w) (mapL mb w) f hb ha hm (by rw [l1, l2]) (by rw [l1]; exact hw) (by omega)
    simp (disch := omega) only [ilt_e, cond_neg, e, bind_s, okRoom_e, xlen_e, List.length_cons, List.length_nil, chk_pos, xapp_e, map_s]
    rfl

theorem mkT_one {b : Int} {f : List Flt} {w k : Nat} (hk : k < w) : mkT b f (mapL (mputR [] (k : Int) (b - 1)) w) (mapL (mputR [] (k : Int) 1) w) = mkT b f (p1 b w k).1 (p1 b w k).2 := by
  rw [mapL_one hk, mapL_one hk]; rfl
theorem mkT_two {b : Int} {f : List Flt} {w k : Nat} (hk : k + 1 < w) : mkT b f (mapL (mputR (mputR [] (k : Int) (b - 1)) ((k + 1 : Nat) : Int) (b - 1)) w) (mapL (mputR [] (k : Int) 1) w) = mkT b f (p2 b w k).1 (p2 b w k).2 := by
  rw [mapL_two hk, mapL_one (by omega)]; rfl

theorem i_std (b w : Int) (f : List Flt) (hf : (f.length : Int) ≤ 1048576) : F_i_StandardTrials (b, (w, f)) = some (stdR b w f) := by
  unfold F_i_StandardTrials stdR
  simp only [isBase_e, bind_s]
  by_cases hb : 2 ≤ b ∧ b ≤ 16
  · rw [decide_eq_true hb, bnot_t, cond_f, i_faults w f (by omega)]
    simp only [bind_s]
    cases hF : faultsB w f with
    | false => simp [hF]
    | true =>
      rw [if_pos ⟨hb, rfl⟩]
      have hw := fW hF
      obtain ⟨n, rfl⟩ : ∃ n : Nat, w = n := ⟨w.toNat, by omega⟩
      have z0 : mapL [] n = zL n := mapL_nil n
      have e0 := i_std1 [] [] b n f [] hb (by omega) (by rw [z0]; exact zL_ok hb.1 n) (by rw [z0]; exact zL_ok hb.1 n) hf (by simp)
      rw [z0] at e0
      simp only [bnot_t, cond_f, e0, bind_s, Int.toNat_natCast, List.nil_append]
      refine iter_run (fun k => ((n : Int), (k : Int), b, (n : Int), trlsL b f (prs b n k), f)) n (by rfl) (fun k hk => ?_) ?_
      · have q1 := p1_ok hb.1 n k
        have lt : (trlsL b f (prs b n k)).length ≤ 1000 := by rw [trlsL_len, prs_len]; omega
        have a1 : mapL (mputR [] (k : Int) (b - 1)) n = (p1 b n k).1 := mapL_one hk _
        have a2 : mapL (mputR [] (k : Int) 1) n = (p1 b n k).2 := mapL_one hk _
        have e := i_std1 (mputR [] (k : Int) (b - 1)) (mputR [] (k : Int) 1) b n f (trlsL b f (prs b n k)) hb (by omega) (by rw [a1]; exact q1.2.2.1) (by rw [a2]; exact q1.2.2.2) hf lt
        rw [a1, a2] at e
        have hs : prs b n (k + 1) = prs b n k ++ [p1 b n k] := by
          show prs b n k ++ [if k < n then p1 b n k else p2 b n (k - n)] = _
          rw [if_pos hk]
        rw [hs, trlsL_app]
        simp (disch := omega) only [ilt_e, cond_pos, mput_e, isub_e, w64, e, bind_s, iadd_e]
        rfl
      · simp (disch := omega) only [ilt_e, cond_neg]
        refine Eq.trans (congrArg (Option.map Sum.inr) (iter_run (r := cond (trialsB (stdL b n f)) (stdL b n f, 0) ([], 5)) (fun j => (((j + 1 : Nat) : Int), b, (n : Int), trlsL b f (prs b n (n + j)), f)) (n - 1) (by rfl) (fun j hj => ?_) ?_)) rfl
        · have q1 := p2_ok hb.1 n j
          have lt : (trlsL b f (prs b n (n + j))).length ≤ 1000 := by rw [trlsL_len, prs_len]; omega
          have a1 : mapL (mputR (mputR [] (j : Int) (b - 1)) ((j + 1 : Nat) : Int) (b - 1)) n = (p2 b n j).1 := mapL_two (by omega) _
          have a2 : mapL (mputR [] (j : Int) 1) n = (p2 b n j).2 := mapL_one (by omega) _
          have e := i_std1 (mputR (mputR [] (j : Int) (b - 1)) ((j + 1 : Nat) : Int) (b - 1)) (mputR [] (j : Int) 1) b n f (trlsL b f (prs b n (n + j))) hb (by omega) (by rw [a1]; exact q1.2.2.1) (by rw [a2]; exact q1.2.2.2) hf lt
          rw [a1, a2] at e
          have hs : prs b n (n + (j + 1)) = prs b n (n + j) ++ [p2 b n j] := by
            show prs b n (n + j) ++ [if n + j < n then p1 b n (n + j) else p2 b n (n + j - n)] = _
            rw [if_neg (by omega), show n + j - n = j by omega]
          have ej : isub .i64 ((j + 1 : Nat) : Int) 1 = (j : Int) := by rw [isub_e, w64 (by omega) (by omega)]; omega
          have eb : isub .i64 b 1 = b - 1 := by rw [isub_e, w64 (by omega) (by omega)]
          rw [hs, trlsL_app]
          simp only [ilt_e, mput_e, ej, eb]
          simp (disch := omega) only [cond_pos, e, bind_s, iadd_e, w64, ine_e, ieq_e, bnot_d, chk_pos]
          rfl
        · have hL : prs b n (n + (n - 1)) = prs b n (2 * n - 1) := by rw [show n + (n - 1) = 2 * n - 1 by omega]
          rw [hL]
          have hv := i_trials (stdL b n f) (trlsL_lens (w := n) (by omega) (by rw [prs_len]; omega) (prs_ok hb.1 n _))
          unfold stdL at hv ⊢
          simp (disch := omega) only [ilt_e, cond_neg, hv, bind_s]
          cases trialsB (trlsL b f (prs b n (2 * n - 1))) <;> rfl
  · rw [decide_eq_false hb, if_neg (fun q => hb q.1)]; rfl

/- the reference's -/
theorem s_pair0 {b : Int} (hb : 2 ≤ b ∧ b ≤ 16) {w : Nat} (hw : w ≤ 16) : F_s_l20Pair (b, ((w : Int), ((-1), false))) = some ((b, zL w), ((b, zL w), ((0, []), 0))) := by
  unfold F_s_l20Pair
  have e := s_new b w 0 hb hw (by omega) (by omega)
  rw [zL_dig b w hb.1] at e
  simp only [e, bind_s, ige_e]
  rw [cond_neg (by omega), cond_neg (by omega)]; rfl
theorem s_pair1 {b : Int} (hb : 2 ≤ b ∧ b ≤ 16) {w k : Nat} (hw : w ≤ 16) (hk : k < w) : F_s_l20Pair (b, ((w : Int), ((k : Int), false))) = some ((b, (p1 b w k).1), ((b, (p1 b w k).2), ((0, []), 0))) := by
  unfold F_s_l20Pair
  have e := s_new b w 0 hb hw (by omega) (by omega)
  rw [zL_dig b w hb.1] at e
  have hl := zL_len w
  simp (disch := omega) only [e, bind_s, ige_e, cond_pos, okIx_e, xlen_e, hl, chk_pos, bnot_f, cond_t, cond_f, i2n_e, xset_e, isub_e, w64]
  rfl
theorem s_pair2 {b : Int} (hb : 2 ≤ b ∧ b ≤ 16) {w k : Nat} (hw : w ≤ 16) (hk : k + 1 < w) : F_s_l20Pair (b, ((w : Int), (((k + 1 : Nat) : Int), true))) = some ((b, (p2 b w k).1), ((b, (p2 b w k).2), ((0, []), 0))) := by
  unfold F_s_l20Pair
  have e := s_new b w 0 hb hw (by omega) (by omega)
  rw [zL_dig b w hb.1] at e
  have hl := zL_len w
  have ek : isub .i64 ((k + 1 : Nat) : Int) 1 = (k : Int) := by rw [isub_e, w64 (by omega) (by omega)]; omega
  have eb : isub .i64 b 1 = b - 1 := by rw [isub_e, w64 (by omega) (by omega)]
  simp only [e, bind_s, ige_e, ek, eb]
  simp (disch := omega) only [cond_pos, okIx_e, xlen_e, hl, List.length_set, chk_pos, bnot_t, cond_t, cond_f, i2n_e, xset_e]
  unfold p2
  rw [List.set_comm _ _ (show k + 1 ≠ k by omega)]

def blankT (b : Int) (p : List Int × List Int) : Trl := ((b, p.1), ((b, p.2), ((0, []), 0)))

theorem s_pairs {b : Int} (hb : 2 ≤ b ∧ b ≤ 16) {w : Nat} (hw : 1 ≤ w ∧ w ≤ 16) : F_s_l20Pairs (b, (w : Int)) = some ((prs b w (2 * w - 1)).map (blankT b)) := by
  unfold F_s_l20Pairs
  rw [s_pair0 hb hw.2]
  simp only [bind_s]
  refine iter_run (fun k => (b, (w : Int), (k : Int), (prs b w k).map (blankT b))) w (by rfl) (fun k hk => ?_) ?_
  · have e := s_pair1 hb hw.2 hk
    have hl : ((prs b w k).map (blankT b)).length = k + 1 := by rw [List.length_map, prs_len]
    have hs : prs b w (k + 1) = prs b w k ++ [p1 b w k] := by
      show prs b w k ++ [if k < w then p1 b w k else p2 b w (k - w)] = _
      rw [if_pos hk]
    simp (disch := omega) only [ilt_e, cond_pos, e, bind_s, okRoom_e, xlen_e, hl, List.length_cons, List.length_nil, chk_pos, iadd_e, w64, xapp_e]
    rw [hs, List.map_append]
    rfl
  · simp (disch := omega) only [ilt_e, cond_neg]
    refine Eq.trans (congrArg (Option.map Sum.inr) (iter_run (r := (prs b w (2 * w - 1)).map (blankT b)) (fun j => (b, (w : Int), ((j + 1 : Nat) : Int), (prs b w (w + j)).map (blankT b))) (w - 1) (by rfl) (fun j hj => ?_) ?_)) rfl
    · have e := s_pair2 hb hw.2 (show j + 1 < w by omega)
      have hl : ((prs b w (w + j)).map (blankT b)).length = w + j + 1 := by rw [List.length_map, prs_len]
      have hs : prs b w (w + (j + 1)) = prs b w (w + j) ++ [p2 b w j] := by
        show prs b w (w + j) ++ [if w + j < w then p1 b w (w + j) else p2 b w (w + j - w)] = _
        rw [if_neg (by omega), show w + j - w = j by omega]
      simp only [ilt_e, e]
      simp (disch := omega) only [cond_pos, bind_s, okRoom_e, xlen_e, hl, List.length_cons, List.length_nil, chk_pos, iadd_e, w64, xapp_e]
      rw [hs, List.map_append]
      rfl
    · rw [show w + (w - 1) = 2 * w - 1 by omega]
      simp (disch := omega) only [ilt_e, cond_neg]

theorem s_std (b w : Int) (f : List Flt) (hf : (f.length : Int) ≤ 1048576) : F_s_StandardTrials (b, (w, f)) = some (stdR b w f) := by
  unfold F_s_StandardTrials stdR
  simp only [base_e, bind_s]
  by_cases hb : 2 ≤ b ∧ b ≤ 16
  · rw [decide_eq_true hb, bnot_t, cond_f, s_faultsB w f (by omega)]
    simp only [bind_s]
    cases hF : faultsB w f with
    | false => simp [hF]
    | true =>
      rw [if_pos ⟨hb, rfl⟩]
      have hw := fW hF
      obtain ⟨n, rfl⟩ : ∃ n : Nat, w = n := ⟨w.toNat, by omega⟩
      simp only [bnot_t, cond_f, s_pairs hb (w := n) (by omega), bind_s, Int.toNat_natCast]
      have hpl := prs_len b n (2 * n - 1)
      have hpo := prs_ok hb.1 n (2 * n - 1)
      unfold stdL
      generalize prs b n (2 * n - 1) = Q at hpl hpo ⊢
      have hinv : ∀ i, ((Q.take i).map (fun p => mkT b f p.1 p.2) ++ (Q.drop i).map (blankT b)).length = Q.length := fun i => by simp; omega
      refine iter_run (fun i => ((i : Int), f, (Q.take i).map (fun p => mkT b f p.1 p.2) ++ (Q.drop i).map (blankT b))) Q.length (by simp) (fun i hi => ?_) ?_
      · have hl := hinv i
        obtain ⟨o1, o2, o3, o4⟩ := hpo Q[i] (List.getElem_mem hi)
        have htl : ((Q.take i).map (fun p => mkT b f p.1 p.2)).length = i := by simp; omega
        have hg : ((Q.take i).map (fun p => mkT b f p.1 p.2) ++ (Q.drop i).map (blankT b)).getD i ((0, ([] : List Int)), ((0, ([] : List Int)), ((0, ([] : List Int)), 0))) = blankT b Q[i] := by
          rw [List.getD_eq_getElem?_getD, List.getElem?_append_right (by omega), htl, Nat.sub_self, List.drop_eq_getElem_cons hi]
          rfl
        have e := s_addedF b b Q[i].1 Q[i].2 f hb o3 o4 (by rw [o1, o2]) (by omega) (by omega) (by rw [o1]; exact hF)
        have hset : ∀ t : Trl, ((Q.take i).map (fun p => mkT b f p.1 p.2) ++ (Q.drop i).map (blankT b)).set i t = (Q.take i).map (fun p => mkT b f p.1 p.2) ++ t :: (Q.drop (i + 1)).map (blankT b) := by
          intro t
          rw [List.set_append_right (h := by omega), htl, Nat.sub_self, List.drop_eq_getElem_cons hi]
          rfl
        simp (disch := omega) only [ilt_e, n2i_e, xlen_e, hl, cond_pos, okIx_e, chk_pos, xget_e, i2n_e, hg, share_e, xset_e]
        simp only [blankT]
        rw [e]
        simp (disch := omega) only [bind_s, List.length_set, hl, okIx_e, chk_pos, set_self, List.set_set, iadd_e, w64]
        rw [hset, List.take_succ_eq_append_getElem hi, List.map_append, List.append_assoc]
        rfl
      · have hl := hinv Q.length
        have hv := s_trials (trlsL b f Q) (trlsL_lens (w := n) (by omega) (by omega) hpo)
        rw [List.take_length, List.drop_length] at hl ⊢
        simp only [List.map_nil, List.append_nil] at hl ⊢
        have ht : Q.map (fun p => mkT b f p.1 p.2) = trlsL b f Q := rfl
        rw [ht] at hl ⊢
        simp (disch := omega) only [ilt_e, n2i_e, xlen_e, hl, cond_neg, hv, bind_s]
        cases trialsB (trlsL b f Q) <;> rfl
  · rw [decide_eq_false hb, if_neg (fun q => hb q.1)]; rfl

theorem stdR_len (b w : Int) (f : List Flt) : lenS (stdR b w f).1 1048576 := by
  have hn : lenS ([] : List Trl) 1048576 := ⟨by simp, fun i hi => absurd hi (by simp)⟩
  unfold stdR
  split
  · rename_i h
    have hw := fW h.2
    cases trialsB (stdL b w.toNat f) with
    | false => exact hn
    | true => exact trlsL_lens (w := w.toNat) (by omega) (by rw [prs_len]; omega) (prs_ok h.1.1 _ _)
  · exact hn

theorem markL_done (l : List Trl) (k : Int) : ∀ i j, j < i → i ≤ l.length → (markL l k i).getD j ((0, ([] : List Int)), ((0, ([] : List Int)), ((0, ([] : List Int)), 0))) = markT (markK l k j) (l.getD j ((0, ([] : List Int)), ((0, ([] : List Int)), ((0, ([] : List Int)), 0))))
  | 0, j, h, _ => absurd h (by omega)
  | i + 1, j, h, hi => by
    unfold markL
    by_cases hj : j = i
    · subst hj
      exact set_self (by rw [markL_len]; omega)
    · rw [List.getD_eq_getElem?_getD, List.getElem?_set_ne (by omega), ← List.getD_eq_getElem?_getD]
      exact markL_done l k i j (by omega) (by omega)

theorem held_TrialS (l : List Trl) (k : Int) (h : lenS l 1048576) (hk : 0 ≤ k) (hk' : k ≤ 1000) : F_l_heldTrialS (markL l k l.length, k) = some (markK l k l.length) := by
  unfold F_l_heldTrialS
  have h0 := h.1
  have hL := markL_len l k l.length
  refine iter_run (fun i => (markK l k i, (i : Int), markL l k l.length)) l.length rfl (fun i hi => ?_) ?_
  · have hb := markK_in h hk hk' i (by omega)
    have h2 := h.2 i hi
    unfold lenT at h2
    have hg := markL_done l k l.length i hi (Nat.le_refl _)
    have hnx : markK l k (i + 1) = nextT (markK l k i) (l.getD i ((0, ([] : List Int)), ((0, ([] : List Int)), ((0, ([] : List Int)), 0)))) := rfl
    have e1 := held_Int64S (l.getD i ((0, ([] : List Int)), ((0, ([] : List Int)), ((0, ([] : List Int)), 0)))).1.2.length (markK l k i + 1) (by omega) (by omega) (by omega)
    have e2 := held_Int64S (l.getD i ((0, ([] : List Int)), ((0, ([] : List Int)), ((0, ([] : List Int)), 0)))).2.1.2.length (markK l k i + 1 + (l.getD i ((0, ([] : List Int)), ((0, ([] : List Int)), ((0, ([] : List Int)), 0)))).1.2.length + 1) (by omega) (by omega) (by omega)
    have e3 := held_Int64S (l.getD i ((0, ([] : List Int)), ((0, ([] : List Int)), ((0, ([] : List Int)), 0)))).2.2.1.2.length (markK l k i + 1 + (l.getD i ((0, ([] : List Int)), ((0, ([] : List Int)), ((0, ([] : List Int)), 0)))).1.2.length + 1 + (l.getD i ((0, ([] : List Int)), ((0, ([] : List Int)), ((0, ([] : List Int)), 0)))).2.1.2.length + 1) (by omega) (by omega) (by omega)
    simp (disch := omega) only [xlen_e, n2i_e, ilt_e, cond_pos, okIx_e, hL, chk_pos, i2n_e, xget_e, hg, markT, iadd_e, w64, e1, e2, e3, bind_s, ine_e, not_true_eq_false, decide_false, cond_f, cond_neg]
    rfl
  · simp (disch := omega) only [xlen_e, n2i_e, hL, ilt_e, cond_neg]

theorem law_StandardTrials (b w : Int) (f : List Flt) (h : (f.length : Int) ≤ 9223372036854775807) : F_l_FnExactStandardTrials (b, (w, f)) = some true := by
  unfold F_l_FnExactStandardTrials
  obtain ⟨v', e', q'⟩ := sz_LeverFaultS f 1048576 h (by omega) (by omega)
  simp only [e', bind_s, ilt_e]
  rcases q' with rfl | ⟨q1', q2'⟩
  · rfl
  rw [cond_neg (by omega)]
  have hf : (f.length : Int) ≤ 1048576 := by omega
  have hS := stdR_len b w f
  have hk := markK_in hS (k := 1) (by omega) (by omega) (stdR b w f).1.length (Nat.le_refl _)
  have m1 := mark_TrialS _ 1 hS (by omega) (by omega)
  have m2 := held_TrialS _ 1 hS (by omega) (by omega)
  simp (disch := omega) only [to_LeverFaultS, bind_s, s_std b w f hf, i_std b w f hf, eq_TrialS _ _ hS hS, decide_true, bnot_t, cond_f, ine_e, not_true_eq_false, decide_false, eq_LeverFaultS, mark_LeverFaultS, cond_neg, m1, m2]

theorem FnExactStandardTrials_true {t4 : TypeId} (x : Int × Int × List Flt) (h : wfArgs [.val false (.int .i64), .val false (.int .i64), .val false (.row false t4 (.pair (.int .i64) (.int .i64)))] x) : ∃ y, F_l_FnExactStandardTrials x = some y ∧ hhead .bool [] y = true :=
  ⟨true, law_StandardTrials x.1 x.2.1 x.2.2 (maxLen_le (n := List.length x.2.2) h.2.2.1.1), rfl⟩

end Go.Prg
