/- The engine, part 19: the region that draws its order, whole. Conditions as in part 17. -/
import Derived.Test.YtjkaapoklbhokaaDoorEng18
set_option linter.all false
namespace Go.Eng
open Go.RowKit

variable {P : Program} {C : Ctx}
variable {n : Nat} {gh : Nat → Value} {w0 : World} {S0 : List Nat} {R0 : Nat → Prop} {s : St} {a : Act} {w : World}

/-- What is kept while the region runs: as Good, over functions; 'base' is the first number of a new block, L says which operations are done. -/
structure Mid (n : Nat) (gh : Nat → Value) (w0 : World) (S0 : List Nat) (R0 : Nat → Prop) (gs : List AV) (base : Nat) (steps : List Step) (L : Nat → Bool) (sl : Nat → AV) (bk : Nat → Blk) (a : Act) (w : World) (ρ : Rho) (S : Nat → List Nat) (R : Nat → Prop) : Prop where
  inv : Inv n w R sl bk ρ S a
  fresh : ∀ i, base ≤ i → (∀ (j : Nat) (st : Step), steps[j]? = some st → L j = true → i ∉ st.eff.ids) → ρ i = none
  ghost : ∀ j, isAV ρ (gs.getD j .unk) (gh j)
  keep : Keeps (· ∈ S0) w0 w
  own : ∀ i, ∀ b ∈ S i, b ∈ S0 ∨ w0.heap.size ≤ b
  RR : ∀ b, R0 b → R b
  Rn : ∀ b, R b → R0 b ∨ b ∈ S0 ∨ w0.heap.size ≤ b

def MidE (n : Nat) (gh : Nat → Value) (w0 : World) (S0 : List Nat) (R0 : Nat → Prop) (gs : List AV) (base : Nat) (steps : List Step) (L : Nat → Bool) (sl : Nat → AV) (bk : Nat → Blk) (a : Act) (w : World) : Prop :=
  ∃ ρ S R, Mid n gh w0 S0 R0 gs base steps L sl bk a w ρ S R

def add1 (L : Nat → Bool) (i : Nat) : Nat → Bool := fun j => if j = i then true else L j

variable {gs : List AV} {base : Nat} {steps : List Step} {L : Nat → Bool} {sl : Nat → AV} {bk : Nat → Blk}

theorem Mid.step {ρ : Rho} {S : Nat → List Nat} {R : Nat → Prop} (h : Mid n gh w0 S0 R0 gs base steps L sl bk a w ρ S R) {i : Nat} {st : Step} (hi : steps[i]? = some st) {w' : World} {R' : Nat → Prop} {ρ' : Rho} {S' : Nat → List Nat} {v : Value} {e : Eff} (he : e.ids = st.eff.ids)
    (p : Post w R ρ S bk e w' R' ρ' S' v) (dst : Option Nat) : Mid n gh w0 S0 R0 gs base steps (add1 L i) (updSl n dst e.val sl) (updBk e.upd bk) (a.put dst v) w' ρ' S' R' := by
  refine ⟨h.inv.step p dst, fun k hk hn => ?_, fun j => (h.ghost j).ext p.ext, ?_, fun k b hb => ?_, fun b hb => p.RR b (h.RR b hb), fun b hb => ?_⟩
  · rw [p.sameρ k (by rw [he]; exact hn i st hi (by simp [add1]))]
    exact h.fresh k hk fun j st' hj hL => hn j st' hj (by unfold add1; split <;> simp [hL])
  · refine h.keep.trans p.keeps fun b hb ⟨j, _, hj⟩ => ?_
    rcases h.own j b hj with h1 | h1
    · exact h1
    · omega
  · by_cases hk : k ∈ e.ids
    · rcases p.own k hk b hb with ⟨j, _, hj⟩ | h1
      · exact h.own j b hj
      · right; have := h.keep.size; omega
    · rw [p.sameS k hk] at hb
      exact h.own k b hb
  · rcases p.Rnew b hb with h1 | ⟨j, _, hj⟩ | h1
    · exact h.Rn b h1
    · exact .inr (h.own j b hj)
    · right; right; have := h.keep.size; omega

/-- A Post over a masked state is one over the whole. -/
theorem Post.lift {ρ : Rho} {S Sm : Nat → List Nat} {R : Nat → Prop} {bk bkm : Nat → Blk} {e : Eff} {w' : World} {R' : Nat → Prop} {ρ' : Rho} {S' : Nat → List Nat} {v : Value} (hS : ∀ i ∈ e.ids, Sm i = S i)
    (p : Post w R ρ Sm bkm e w' R' ρ' S' v) : ∃ S'', Post w R ρ S bk e w' R' ρ' S'' v := by
  classical
  have hex : ∀ b, (∃ i ∈ e.ids, b ∈ Sm i) ↔ ∃ i ∈ e.ids, b ∈ S i := fun b =>
    ⟨fun ⟨i, hi, hb⟩ => ⟨i, hi, by rw [← hS i hi]; exact hb⟩, fun ⟨i, hi, hb⟩ => ⟨i, hi, by rw [hS i hi]; exact hb⟩⟩
  refine ⟨fun i => if i ∈ e.ids then S' i else S i, p.ext, p.sameρ, p.one, fun i hi => by rw [if_neg hi], fun i hi => ?_, p.keeps.mono fun b _ hb => (hex b).1 hb, fun i hi b hb => ?_, fun i hi => by rw [if_pos hi]; exact p.nodup i hi,
    fun i hi j hj hij => by rw [if_pos hi, if_pos hj]; exact p.disj i hi j hj hij, p.RR, fun b hb => (p.Rnew b hb).imp id (Or.imp (hex b).1 id), p.Rlt, fun i hi => by rw [if_pos hi]; exact p.offR i hi, p.val⟩
  · rw [if_pos hi, updBk_mem (bk' := bkm) hi]
    exact p.blk i hi
  · rw [if_pos hi] at hb
    exact (p.own i hi b hb).imp (hex b).1 id

/-- What later puts leave of a map is a map. -/
theorem bkL_puts {L : Nat → Bool} {m : Nat} : ∀ {ls : List Step} {i : Nat} {f : Nat → Blk} {l : List (Int × Int)}, f m = .mp true true l → (∀ (j : Nat) (st : Step), ls[j]? = some st → L (i + j) = true → m ∈ st.eff.ids → ∃ z, st.rc.put = some z) →
    ∃ l', bkL L ls i f m = .mp true true l'
  | [], _, _, l, h, _ => ⟨l, h⟩
  | st :: r, i, f, l, h, hp => by
    simp only [bkL]
    have hp' := fun (j : Nat) (st' : Step) (hj : r[j]? = some st') (hL : L (i + 1 + j) = true) => hp (j + 1) st' (by simpa using hj) (by rw [show i + (j + 1) = i + 1 + j from by omega]; exact hL)
    split
    · rename_i hL
      by_cases hm : m ∈ st.eff.upd.map (·.1)
      · obtain ⟨z, hz⟩ := hp 0 st rfl (by simpa using hL) hm
        refine bkL_puts (l := mputR l z.1 z.2) ?_ hp'
        simp only [updS, hz, if_pos hm, h, putB]
      · exact bkL_puts (l := l) (by rw [updS_not hm]; exact h) hp'
    · exact bkL_puts h hp'

/-- On the way to a map: it was there, and what is done of the writes to it are puts, or all are done. -/
theorem bkL_mp {ops : Array Oper} {L : Nat → Bool} {m : Nat} (ls : List Step) : ∀ {os : List Oper} {i : Nat} {f : Nat → Blk} {sl sl' : Nat → AV} {bk bk' : Nat → Blk} {nx nx' : Nat} {l : List (Int × Int)}, Chain P n ops ls os sl bk nx sl' bk' nx' →
    (f m = bk m ∨ ∃ l1 l2, f m = .mp true true l1 ∧ bk m = .mp true true l2) → bk' m = .mp true true l → (∀ (j : Nat) (st : Step), ls[j]? = some st → L (i + j) = false → m ∈ st.eff.ids → ∃ z, st.rc.put = some z) → ∃ l', bkL L ls i f m = .mp true true l' := by
  induction ls with
  | nil =>
    intro os i f sl sl' bk bk' nx nx' l hc hf hb _
    obtain ⟨_, _, h1, _⟩ := hc.nil_inv
    rcases hf with hf | ⟨l1, _, hf, _⟩
    · exact ⟨l, by simp only [bkL]; rw [hf, h1]; exact hb⟩
    · exact ⟨l1, hf⟩
  | cons st r ih =>
    intro os i f sl sl' bk bk' nx nx' l hc hf hb hp
    obtain ⟨o, os', _, h1, h2, h3, h4, nx1, h5, h6, h7⟩ := hc.cons_inv
    simp only [bkL]
    refine ih h7 ?_ hb fun j st' hj hL => hp (j + 1) st' (by simpa using hj) (by rw [show i + (j + 1) = i + 1 + j from by omega]; exact hL)
    by_cases hm : m ∈ st.eff.upd.map (·.1)
    · cases hz : st.rc.put with
      | none =>
        split
        · left
          simp only [updS, hz]
          exact updBk_mem hm
        · rename_i hn
          obtain ⟨z, hz'⟩ := hp 0 st rfl (by simpa using hn) hm
          rw [hz] at hz'; cases hz'
      | some z =>
        obtain ⟨_, m', l2, heff, hbm, _⟩ := h4.2.2.2.2.1 z.1 z.2 hz
        have hmm : m = m' := by rw [heff] at hm; simpa using hm
        subst hmm
        rw [h2] at hbm
        have hf' : ∃ l1, f m = .mp true true l1 := by
          rcases hf with hf | ⟨l1, _, hf, _⟩
          · exact ⟨l2, by rw [hf]; exact hbm⟩
          · exact ⟨l1, hf⟩
        obtain ⟨l1, hf1⟩ := hf'
        right
        split
        · exact ⟨mputR l1 z.1 z.2, mputR l2 z.1 z.2, by simp only [updS, hz, if_pos hm, hf1, putB], by simp only [updS, hz, if_pos hm, hbm, putB]⟩
        · exact ⟨l1, mputR l2 z.1 z.2, hf1, by simp only [updS, hz, if_pos hm, hbm, putB]⟩
    · rw [updS_not hm]
      split
      · rw [updS_not hm]; exact hf
      · exact hf

theorem meet_of {x : Nat} {l m : List Nat} (h1 : x ∈ l) (h2 : x ∈ m) : meet l m = true := by
  unfold meet
  rw [List.any_eq_true]
  exact ⟨x, h1, by simpa using h2⟩

/-- Every order does what the text's order does. -/
theorem draw_sound {ops : Array Oper} {Q : Exit → Act → World → Prop} {sl0 slN : Nat → AV} {bk0 bkN : Nat → Blk} {nxN : Nat} (hch : Chain P n ops steps ops.toList sl0 bk0 base slN bkN nxN) (hok : drawOk ops.toList (steps.map (·.rc)) = true)
    (hkeys : ∀ (i j : Nat) (x y : Step) (p q p' q' : Int) (m : Nat), i < j → steps[i]? = some x → steps[j]? = some y → x.rc.put = some (p, q) → y.rc.put = some (p', q') → m ∈ x.rc.ids → m ∈ y.rc.ids → p ≠ p')
    (hq : ∀ a' w', MidE n gh w0 S0 R0 gs base steps (fun _ => true) slN bkN a' w' → Q .normal a' w') :
    ∀ (fuel : Nat) (listed : Array Bool), listed.size = ops.size → ((List.range ops.size).filter fun i => !listed.getD i true).length ≤ fuel → (∀ j o, ops[j]? = some o → listed.getD j false = true → ∀ e ∈ o.after.toList, Region.binds .any e = true → listed.getD e.on false = true) →
      ∀ (a : Act) (w : World), MidE n gh w0 S0 R0 gs base steps (fun i => listed.getD i false) (slL n (fun i => listed.getD i false) steps 0 sl0) (bkL (fun i => listed.getD i false) steps 0 bk0) a w → wpAny P .any ops Q fuel listed a w := by
  simp only [drawOk, Bool.and_eq_true] at hok
  obtain ⟨hfw, hcf⟩ := hok
  obtain ⟨_, hlen, hids⟩ := hch.nx_le
  rw [Array.length_toList] at hlen
  -- the end: all are listed
  have hend : ∀ (listed : Array Bool), listed.size = ops.size → (∀ i, i < ops.size → listed.getD i false = true) → ∀ (a : Act) (w : World),
      MidE n gh w0 S0 R0 gs base steps (fun i => listed.getD i false) (slL n (fun i => listed.getD i false) steps 0 sl0) (bkL (fun i => listed.getD i false) steps 0 bk0) a w → Q .normal a w := by
    intro listed hsz hall a w ⟨ρ, S, R, hm⟩
    have e1 : slL n (fun i => listed.getD i false) steps 0 sl0 = slN := funext fun t => slL_agree steps hch rfl fun j st hj _ => by
      rw [Nat.zero_add]; exact hall j (by have := (List.getElem?_eq_some_iff.1 hj).1; omega)
    have e2 : bkL (fun i => listed.getD i false) steps 0 bk0 = bkN := funext fun t => bkL_agree steps hch rfl fun j st hj _ => by
      rw [Nat.zero_add]; exact hall j (by have := (List.getElem?_eq_some_iff.1 hj).1; omega)
    rw [e1, e2] at hm
    exact hq a w ⟨ρ, S, R, hm.inv, fun i hi hn => hm.fresh i hi fun j st hj _ => hn j st hj rfl, hm.ghost, hm.keep, hm.own, hm.RR, hm.Rn⟩
  -- somebody is ready while not all are listed
  have hready : ∀ (listed : Array Bool), listed.size = ops.size → Region.ready .any ops listed = [] → ∀ i, i < ops.size → listed.getD i false = true := by
    intro listed hsz hnil i
    induction i using Nat.strongRecOn with
    | _ i ih =>
      intro hi
      cases hl : listed.getD i false with
      | true => rfl
      | false =>
        exfalso
        have hmem : i ∈ Region.ready .any ops listed := by
          rw [mem_ready]
          refine ⟨by
            simp only [Array.getD_eq_getD_getElem?] at hl ⊢
            rw [Array.getElem?_eq_getElem (by omega)] at hl ⊢
            simpa using hl, ops[i], Array.getElem?_eq_getElem hi, fun e he hb => ?_⟩
          have := forward_edge hfw i ops[i] (by rw [Array.getElem?_toList, Array.getElem?_eq_getElem hi]) e (by simpa using he) hb
          exact ih e.on (by omega) (by omega)
        rw [hnil] at hmem
        simp at hmem
  intro fuel
  induction fuel with
  | zero =>
    intro listed hsz hcount hcl a w hm
    have hall : ∀ i, i < ops.size → listed.getD i false = true := by
      intro i hi
      have h0 : (List.range ops.size).filter (fun i => !listed.getD i true) = [] := List.eq_nil_of_length_eq_zero (by omega)
      have := List.filter_eq_nil_iff.1 h0 i (by simpa using hi)
      simp only [Array.getD_eq_getD_getElem?] at this ⊢
      rw [Array.getElem?_eq_getElem (by omega)] at this ⊢
      simpa using this
    refine ⟨?_, hend listed hsz hall a w hm⟩
    apply List.eq_nil_iff_forall_not_mem.2
    intro i hi
    obtain ⟨h1, o, h2, _⟩ := mem_ready.1 hi
    have hlt := (Array.getElem?_eq_some_iff.1 h2).1
    have := hall i hlt
    simp only [Array.getD_eq_getD_getElem?] at h1 this
    rw [Array.getElem?_eq_getElem (by omega)] at h1 this
    simp only [Option.getD_some] at h1 this
    rw [h1] at this; cases this
  | succ fuel ihf =>
    intro listed hsz hcount hcl a w hm
    refine ⟨fun hnil => hend listed hsz (hready listed hsz hnil) a w hm, fun i hi => ?_⟩
    obtain ⟨hun, o, ho, hedge⟩ := mem_ready.1 hi
    have hlt := (Array.getElem?_eq_some_iff.1 ho).1
    have hLi : listed.getD i false = false := by
      simp only [Array.getD_eq_getD_getElem?] at hun ⊢
      rw [Array.getElem?_eq_getElem (by omega)] at hun ⊢
      simpa using hun
    have hedge' : ∀ e ∈ o.after.toList, Region.binds .any e = true → listed.getD e.on false = true := fun e he hb => hedge e (by simpa using he) hb
    obtain ⟨st, hst⟩ : ∃ st, steps[i]? = some st := ⟨steps[i]'(by omega), List.getElem?_eq_getElem (by omega)⟩
    obtain ⟨o', ho', hstok, hpre, hsplit⟩ := hch.split steps hst
    rw [Array.getElem?_toList, ho, Option.some.injEq] at ho'
    subst ho'
    obtain ⟨hd1, hd2, hrun, hnrun, hput, hguard⟩ := hstok
    have hanc : ∀ j, ((befs ops.toList []).getD i 0).testBit j = true → listed.getD j false = true := anc_listed (L := fun i => listed.getD i false) hcl i o ho hedge'
    have hback : ∀ j, listed.getD j false = true → ((befs ops.toList []).getD j 0).testBit i = true → False := by
      intro j hj hb
      cases hoj : ops[j]? with
      | none =>
        have hsj : ops.size ≤ j := by
          rcases Nat.lt_or_ge j ops.size with h' | h'
          · rw [Array.getElem?_eq_getElem h'] at hoj; cases hoj
          · exact h'
        simp only [Array.getD_eq_getD_getElem?] at hj
        rw [Array.getElem?_eq_none (by omega)] at hj
        simp at hj
      | some oj =>
        have := anc_listed (L := fun i => listed.getD i false) hcl j oj hoj (hcl j oj hoj hj) i hb
        rw [hLi] at this; cases this
    have hrc : ∀ (j : Nat) (sj : Step), steps[j]? = some sj → (steps.map (·.rc))[j]? = some sj.rc := fun j sj hj => by rw [List.getElem?_map, hj]; rfl
    have hearly : ∀ (j : Nat) (sj : Step), j < i → steps[j]? = some sj → clash sj.rc st.rc = true → listed.getD j false = true := fun j sj hji hj hc =>
      hanc j (clash_anc hcf rfl j i sj.rc st.rc hji (by simpa using hrc j sj hj) (by simpa using hrc i st hst) (Nat.zero_le _) hc)
    have hlate : ∀ (j : Nat) (sj : Step), i < j → steps[j]? = some sj → clash st.rc sj.rc = true → listed.getD j false = false := fun j sj hij hj hc => by
      cases hl : listed.getD j false with
      | false => rfl
      | true => exact (hback j hl (clash_anc hcf rfl i j st.rc sj.rc hij (by simpa using hrc i st hst) (by simpa using hrc j sj hj) (Nat.zero_le _) hc)).elim
    have htake : ∀ (j : Nat) (sj : Step), (steps.take i)[j]? = some sj → j < i ∧ steps[j]? = some sj := by
      intro j sj hj
      rw [List.getElem?_take] at hj
      split at hj
      · exact ⟨‹_›, hj⟩
      · cases hj
    have hdrop : ∀ (j : Nat) (sj : Step), (steps.drop (i + 1))[j]? = some sj → steps[i + 1 + j]? = some sj := by
      intro j sj hj
      rw [List.getElem?_drop] at hj; exact hj
    have hil : (steps.take i).length = i := by rw [List.length_take]; omega
    -- the slots and blocks that the operation reads are as on the way in the text's order
    have hslot : ∀ t ∈ st.rc.slots, slL n (fun i => listed.getD i false) steps 0 sl0 t = st.sl t := by
      intro t ht
      rw [hsplit, slL_app]
      simp only [slL, Nat.zero_add, hil, hLi, Bool.false_eq_true, ↓reduceIte]
      rw [slL_skip]
      · exact slL_agree _ hpre rfl fun j sj hj hd => by
          obtain ⟨h1, h2⟩ := htake j sj hj
          rw [Nat.zero_add]
          exact hearly j sj h1 h2 (by
            simp only [clash, Bool.or_eq_true]
            exact .inl (.inl (meet_of (x := t) (by rw [hd]; simp) (List.mem_append_left _ ht))))
      · intro j sj hj hd
        exact hlate (i + 1 + j) sj (by omega) (hdrop j sj hj) (by
          simp only [clash, Bool.or_eq_true]
          exact .inl (.inr (meet_of (x := t) (by rw [hd]; simp) ht)))
    have hfoot : st.rc.put = none → ∀ t ∈ st.rc.foot, bkL (fun i => listed.getD i false) steps 0 bk0 t = st.bk t := by
      intro hnp t ht
      have hidsrc : ∀ (j : Nat) (sj : Step), steps[j]? = some sj → sj.rc.ids = sj.eff.ids := by
        intro j sj hj
        obtain ⟨_, _, hk, _⟩ := hch.split steps hj
        exact hk.2.1
      rw [hsplit, bkL_app]
      simp only [bkL, Nat.zero_add, hil, hLi, Bool.false_eq_true, ↓reduceIte]
      rw [bkL_skip]
      · exact bkL_agree _ hpre rfl fun j sj hj hd => by
          obtain ⟨h1, h2⟩ := htake j sj hj
          rw [Nat.zero_add]
          exact hearly j sj h1 h2 (by
            simp only [clash, Bool.or_eq_true, Bool.and_eq_true]
            exact .inr ⟨by simp [hnp], .inl (meet_of (x := t) (by rw [hidsrc j sj h2]; exact hd) (List.mem_append_left _ ht))⟩)
      · intro j sj hj hd
        exact hlate (i + 1 + j) sj (by omega) (hdrop j sj hj) (by
          simp only [clash, Bool.or_eq_true, Bool.and_eq_true]
          exact .inr ⟨by simp [hnp], .inr (meet_of (x := t) (by rw [hidsrc _ sj (hdrop j sj hj)]; exact hd) ht)⟩)
    -- what is listed behind the operation
    have hget : ∀ j, (listed.setIfInBounds i true).getD j false = add1 (fun i => listed.getD i false) i j := by
      intro j
      simp only [add1, Array.getD_eq_getD_getElem?, Array.getElem?_setIfInBounds]
      by_cases hj : i = j
      · subst hj; simp [show i < listed.size by omega]
      · simp [hj, Ne.symm hj]
    have hL' : (fun j => (listed.setIfInBounds i true).getD j false) = add1 (fun i => listed.getD i false) i := funext hget
    have hslB : slL n (add1 (fun i => listed.getD i false) i) steps 0 sl0 = updSl n st.rc.dst st.eff.val (slL n (fun i => listed.getD i false) steps 0 sl0) := by
      rw [hsplit, slL_app, slL_app]
      simp only [slL, Nat.zero_add, hil, hLi, Bool.false_eq_true, ↓reduceIte]
      have h1 : add1 (fun i => listed.getD i false) i i = true := by simp [add1]
      rw [if_pos h1]
      rw [slL_congr (l := steps.take i) (L' := fun i => listed.getD i false) fun j hj => by rw [hil] at hj; simp only [add1]; rw [if_neg (by omega)]]
      rw [slL_congr (l := steps.drop (i + 1)) (L' := fun i => listed.getD i false) fun j hj => by simp only [add1]; rw [if_neg (by omega)]]
      exact slL_comm fun j sj x hj hx hd => hlate (i + 1 + j) sj (by omega) (hdrop j sj hj) (by
        simp only [clash, Bool.or_eq_true]
        exact .inl (.inl (meet_of (x := x) (by rw [hx]; simp) (List.mem_append_right _ (by rw [hd]; simp)))))
    have hbkB : bkL (add1 (fun i => listed.getD i false) i) steps 0 bk0 = updS st (bkL (fun i => listed.getD i false) steps 0 bk0) := by
      rw [hsplit, bkL_app, bkL_app]
      simp only [bkL, Nat.zero_add, hil, hLi, Bool.false_eq_true, ↓reduceIte]
      have h1 : add1 (fun i => listed.getD i false) i i = true := by simp [add1]
      rw [if_pos h1]
      rw [bkL_congr (l := steps.take i) (L' := fun i => listed.getD i false) fun j hj => by rw [hil] at hj; simp only [add1]; rw [if_neg (by omega)]]
      rw [bkL_congr (l := steps.drop (i + 1)) (L' := fun i => listed.getD i false) fun j hj => by simp only [add1]; rw [if_neg (by omega)]]
      refine bkL_comm fun j sj hj hL => ?_
      have hsj : sj.rc.ids = sj.eff.ids := by
        obtain ⟨_, _, hk, _⟩ := hch.split steps (hdrop j sj hj)
        exact hk.2.1
      by_cases hdis : ∀ x ∈ st.eff.upd.map (·.1), x ∉ sj.eff.upd.map (·.1)
      · exact .inl hdis
      · obtain ⟨x, hdis⟩ := Classical.not_forall.1 hdis
        obtain ⟨hx, hx'⟩ := Classical.not_imp.1 hdis
        have hx' := Classical.not_not.1 hx'
        have hxi : x ∈ st.rc.ids := by rw [hd2]; exact hx
        have hxj : x ∈ sj.rc.ids := by rw [hsj]; exact hx'
        have hnc : clash st.rc sj.rc = true → False := fun hc => by
          have := hlate (i + 1 + j) sj (by omega) (hdrop j sj hj) hc
          rw [this] at hL; cases hL
        cases h1 : st.rc.put with
        | none =>
          exact (hnc (by
            simp only [clash, Bool.or_eq_true, Bool.and_eq_true]
            exact .inr ⟨by simp [h1], .inl (meet_of (x := x) hxi (List.mem_append_right _ hxj))⟩)).elim
        | some pq =>
          cases h2 : sj.rc.put with
          | none =>
            exact (hnc (by
              simp only [clash, Bool.or_eq_true, Bool.and_eq_true]
              exact .inr ⟨by simp [h2], .inl (meet_of (x := x) hxi (List.mem_append_right _ hxj))⟩)).elim
          | some pq' => exact .inr ⟨pq.1, pq.2, pq'.1, pq'.2, rfl, rfl, hkeys i (i + 1 + j) st sj _ _ _ _ x (by omega) hst (hdrop j sj hj) h1 h2 hxi hxj⟩
    obtain ⟨ρ, S, R, hm⟩ := hm
    have hnext : ∀ a' w', MidE n gh w0 S0 R0 gs base steps (add1 (fun i => listed.getD i false) i) (updSl n st.rc.dst st.eff.val (slL n (fun i => listed.getD i false) steps 0 sl0)) (updS st (bkL (fun i => listed.getD i false) steps 0 bk0)) a' w' →
        wpAny P .any ops Q fuel (listed.setIfInBounds i true) a' w' := by
      intro a' w' hm'
      refine ihf (listed.setIfInBounds i true) (by simp [hsz]) ?_ ?_ a' w' (by rw [hL', hslB, hbkB]; exact hm')
      · have hfl : ∀ (l : List Nat), i ∈ l → (l.filter fun j => !(listed.setIfInBounds i true).getD j true).length < (l.filter fun j => !listed.getD j true).length := by
          have hp : ∀ j, (listed.setIfInBounds i true).getD j true = if j = i then true else listed.getD j true := by
            intro j
            simp only [Array.getD_eq_getD_getElem?, Array.getElem?_setIfInBounds]
            by_cases hj : i = j
            · subst hj; simp [show i < listed.size by omega]
            · simp [hj, Ne.symm hj]
          have hle : ∀ (l : List Nat), (l.filter fun j => !(listed.setIfInBounds i true).getD j true).length ≤ (l.filter fun j => !listed.getD j true).length := by
            intro l
            induction l with
            | nil => simp
            | cons x l ih =>
              simp only [List.filter_cons, hp x]
              by_cases hx : x = i
              · simp only [hx, ↓reduceIte, Bool.not_true, Bool.false_eq_true]
                split
                · simp only [List.length_cons]; omega
                · exact ih
              · simp only [if_neg hx]
                split
                · simp only [List.length_cons]; omega
                · exact ih
          intro l hl
          induction l with
          | nil => simp at hl
          | cons x l ih =>
            simp only [List.filter_cons, hp x]
            by_cases hx : x = i
            · subst hx
              simp only [↓reduceIte, Bool.not_true, Bool.false_eq_true, hun, Bool.not_false, List.length_cons]
              have := hle l; omega
            · simp only [if_neg hx]
              have hl' := ih ((List.mem_cons.1 hl).resolve_left (Ne.symm hx))
              split
              · simp only [List.length_cons]; omega
              · exact hl'
        have := hfl (List.range ops.size) (by simpa using hlt)
        omega
      · intro j oj hoj hj e he hb
        rw [hget] at hj ⊢
        simp only [add1] at hj ⊢
        by_cases hji : j = i
        · subst hji
          rw [ho, Option.some.injEq] at hoj
          subst hoj
          split
          · rfl
          · exact hedge' e he hb
        · rw [if_neg hji] at hj
          split
          · rfl
          · exact hcl j oj hoj hj e he hb
    -- the operation itself
    -- the map, whatever has been put into it meanwhile
    have hmpL : ∀ (m : Nat) (l : List (Int × Int)), st.bk m = .mp true true l → m ∈ st.rc.ids → (∃ pq, st.rc.put = some pq) → ∃ l', bkL (fun i => listed.getD i false) steps 0 bk0 m = .mp true true l' := by
      intro m l hbm hmi ⟨pq, hpq⟩
      rw [hsplit, bkL_app]
      simp only [bkL, Nat.zero_add, hil, hLi, Bool.false_eq_true, ↓reduceIte]
      have hpre' : ∃ l', bkL (fun i => listed.getD i false) (steps.take i) 0 bk0 m = .mp true true l' := by
        refine bkL_mp _ hpre (.inl rfl) hbm fun j sj hj hL hin => ?_
        obtain ⟨h1, h2⟩ := htake j sj hj
        rw [Nat.zero_add] at hL
        cases h3 : sj.rc.put with
        | some z => exact ⟨z, rfl⟩
        | none =>
          have hsj : sj.rc.ids = sj.eff.ids := by
            obtain ⟨_, _, hk, _⟩ := hch.split steps h2
            exact hk.2.1
          have := hearly j sj h1 h2 (by
            simp only [clash, Bool.or_eq_true, Bool.and_eq_true]
            exact .inr ⟨by simp [h3], .inl (meet_of (x := m) (by rw [hsj]; exact hin) (List.mem_append_right _ hmi))⟩)
          rw [hL] at this; cases this
      obtain ⟨l1, hl1⟩ := hpre'
      refine bkL_puts hl1 fun j sj hj hL hin => ?_
      cases h3 : sj.rc.put with
      | some z => exact ⟨z, rfl⟩
      | none =>
        have hsj : sj.rc.ids = sj.eff.ids := by
          obtain ⟨_, _, hk, _⟩ := hch.split steps (hdrop j sj hj)
          exact hk.2.1
        have := hlate (i + 1 + j) sj (by omega) (hdrop j sj hj) (by
          simp only [clash, Bool.or_eq_true, Bool.and_eq_true]
          exact .inr ⟨by simp [h3], .inl (meet_of (x := m) hmi (List.mem_append_right _ (by rw [hsj]; exact hin)))⟩)
        rw [this] at hL; cases hL
    have hrunit : st.run = true → o.wp P a w (wpAny P .any ops Q fuel (listed.setIfInBounds i true)) Q := by
      intro hr
      have hmask : maskS st.rc.slots (slL n (fun i => listed.getD i false) steps 0 sl0) = maskS st.rc.slots st.sl := by
        funext t
        simp only [maskS]
        split
        · rename_i hc
          exact hslot t (by simpa using hc)
        · rfl
      cases hnp : st.rc.put with
      | some pq =>
        obtain ⟨_, m, l, heff, hbm, hmn, hsnd⟩ := hput pq.1 pq.2 hnp
        obtain ⟨l', hl'⟩ : ∃ l', bkL (fun i => listed.getD i false) steps 0 bk0 m = .mp true true l' := hmpL m l hbm (by rw [hd2, heff]; simp [Eff.ids]) ⟨_, hnp⟩
        have hless : Less (maskS st.rc.slots (slL n (fun i => listed.getD i false) steps 0 sl0)) (bkL (fun i => listed.getD i false) steps 0 bk0) (slL n (fun i => listed.getD i false) steps 0 sl0) (bkL (fun i => listed.getD i false) steps 0 bk0) :=
          ⟨fun t => by simp only [maskS]; split <;> simp, fun t => .inl rfl⟩
        obtain ⟨Sm, hinv, hSm1, hSm2⟩ := hm.inv.less hless
        rw [hmask] at hinv
        refine hsnd _ l' hl' n w R ρ Sm a _ Q hinv (fun k hk hge => by simp [Eff.ids] at hk; omega) fun w' R' ρ' S' v p => ?_
        obtain ⟨S'', p'⟩ := Post.lift (bk := bkL (fun i => listed.getD i false) steps 0 bk0) (fun k hk => hSm2 k rfl) p
        have := hm.step hst (by rw [heff]; rfl) p' o.dst
        have hu : updBk [(m, Blk.mp true true (mputR l' pq.1 pq.2))] (bkL (fun i => listed.getD i false) steps 0 bk0) = updS st (bkL (fun i => listed.getD i false) steps 0 bk0) := by
          funext t
          simp only [updS, hnp, heff, updBk, List.map_cons, List.map_nil, List.mem_singleton]
          by_cases ht : t = m
          · rw [if_pos ht, if_pos ht, ht, hl']; rfl
          · rw [if_neg ht, if_neg ht]
        rw [hu] at this
        have hv : st.eff.val = .tup [] := by rw [heff]
        rw [← hd1] at this ⊢
        refine hnext _ _ ⟨ρ', S'', R', ?_⟩
        rw [hv]; exact this
      | none =>
      obtain ⟨hsnd, hidok⟩ := hrun hr
      have hmaskb : maskB st.rc.foot (bkL (fun i => listed.getD i false) steps 0 bk0) = maskB st.rc.foot st.bk := by
        funext t
        simp only [maskB]
        split
        · rename_i hc
          exact hfoot hnp t (by simpa using hc)
        · rfl
      have hless : Less (maskS st.rc.slots (slL n (fun i => listed.getD i false) steps 0 sl0)) (maskB st.rc.foot (bkL (fun i => listed.getD i false) steps 0 bk0)) (slL n (fun i => listed.getD i false) steps 0 sl0) (bkL (fun i => listed.getD i false) steps 0 bk0) :=
        ⟨fun t => by simp only [maskS]; split <;> simp, fun t => by simp only [maskB]; split <;> simp⟩
      obtain ⟨Sm, hinv, hSm1, hSm2⟩ := hm.inv.less hless
      rw [hmask, hmaskb] at hinv
      have hfr : ∀ k ∈ st.eff.ids, st.nx ≤ k → ρ k = none := by
        intro k hk hge
        refine hm.fresh k (by have := (hids i st hst).1; omega) fun j sj hj hL hin => ?_
        have hsj : sj.rc.ids = sj.eff.ids := by
          obtain ⟨_, _, hk, _⟩ := hch.split steps hj
          exact hk.2.1
        rcases Nat.lt_trichotomy j i with hji | hji | hji
        · have hpj : (steps.take i)[j]? = some sj := by rw [List.getElem?_take, if_pos hji]; exact hj
          have := (hpre.nx_le).2.2 j sj hpj
          have := this.2 k hin
          omega
        · subst hji
          rw [hLi] at hL; cases hL
        · have := hlate j sj hji hj (by
            simp only [clash, Bool.or_eq_true, Bool.and_eq_true]
            exact .inr ⟨by simp [hnp], .inl (meet_of (x := k) (by rw [hd2]; exact hk) (List.mem_append_right _ (by rw [hsj]; exact hin)))⟩)
          rw [this] at hL; cases hL
      refine hsnd n w R ρ Sm a _ Q hinv hfr fun w' R' ρ' S' v p => ?_
      have hSS : ∀ k ∈ st.eff.ids, Sm k = S k := by
        intro k hk
        rcases hidok k hk with h1 | h1
        · refine hSm2 k ?_
          simp only [maskB]
          rw [if_pos (by simpa using h1)]
        · have := (hm.inv.fresh (hfr k hk h1)).2
          rcases hSm1 k with h2 | h2
          · exact h2
          · rw [h2, this]
      obtain ⟨S'', p'⟩ := Post.lift (bk := bkL (fun i => listed.getD i false) steps 0 bk0) hSS p
      have := hm.step hst rfl p' o.dst
      rw [show updBk st.eff.upd (bkL (fun i => listed.getD i false) steps 0 bk0) = updS st (bkL (fun i => listed.getD i false) steps 0 bk0) by simp only [updS, hnp]] at this
      rw [← hd1] at this ⊢
      exact hnext _ _ ⟨_, _, _, this⟩
    have hskip : st.run = false → wpAny P .any ops Q fuel (listed.setIfInBounds i true) (a.put o.dst undef) w := by
      intro hr
      have he := hnrun hr
      have p : Post w R ρ S (bkL (fun i => listed.getD i false) steps 0 bk0) st.eff w R ρ S undef := by rw [he]; exact Post.pure hm.inv undef_tup
      have := hm.step hst rfl p o.dst
      have hnp : st.rc.put = none := by
        cases hpq : st.rc.put with
        | none => rfl
        | some pq =>
          have := (hput pq.1 pq.2 hpq).1
          rw [hr] at this; cases this
      rw [show updBk st.eff.upd (bkL (fun i => listed.getD i false) steps 0 bk0) = updS st (bkL (fun i => listed.getD i false) steps 0 bk0) by simp only [updS, hnp]] at this
      rw [← hd1] at this ⊢
      exact hnext _ _ ⟨_, _, _, this⟩
    unfold wpOp
    simp only [ho]
    rcases hguard with ⟨hg, hr⟩ | ⟨j, want, d, hg, hd, hdm, hb⟩
    · rw [if_pos (by simp [Region.wanted, hg])]
      exact .inl (hrunit hr)
    · rcases hb with ⟨b, hb, hr⟩ | ⟨hb, hr⟩
      · have hy := yields_of (ops := ops) hm.inv hd (by rw [hslot d hdm]; exact hb)
        cases hbw : (b == want)
        · rw [hbw] at hr
          rw [if_neg (by simp only [Region.wanted, hg, hy]; simpa using hbw)]
          exact hskip hr
        · rw [hbw] at hr
          rw [if_pos (by simp only [Region.wanted, hg, hy]; simpa using hbw)]
          exact .inl (hrunit hr)
      · have hy := yields_none (ops := ops) hm.inv hd (by rw [hslot d hdm]; exact hb)
        rw [if_neg (by simp [Region.wanted, hg, hy])]
        exact hskip hr

end Go.Eng
