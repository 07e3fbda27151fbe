/- The engine, part 20: regions with drawn orders, tests, blocks and loops: what 'run' says holds. Conditions as in part 17. -/
import Derived.Test.YtjkaapoklbhokaaDoorEng19
import Derived.LoopN
set_option linter.all false
namespace Go.Eng
open Go.RowKit

variable {P : Program} {C : Ctx}
variable {n : Nat} {gh : Nat → Value} {w0 : World} {S0 : List Nat} {R0 : Nat → Prop} {s : St} {a : Act} {w : World}

theorem dead_mask {s : St} {l : List Nat} : ∀ i, s.hp.length ≤ i → maskB l s.bkF i = .dead := by
  intro i hi
  simp only [maskB]
  split
  · exact dead_past i hi
  · rfl

theorem app_lens {s : St} {dst : Option Nat} {e : Eff} : s.hp.length ≤ (s.app dst e).hp.length ∧ (∀ i ∈ e.ids, i < (s.app dst e).hp.length) ∧ (s.app dst e).sl.length = s.sl.length ∧ (s.app dst e).gs = s.gs := by
  obtain ⟨l1, l2⟩ := len_updHp e.upd s.hp
  refine ⟨l1, l2, ?_, rfl⟩
  cases dst <;> simp [St.app]

theorem updS_text {ops : Array Oper} {st : Step} {o : Oper} (h : st.ok P ops o) : updS st st.bk = updBk st.eff.upd st.bk := by
  unfold updS
  split
  · rfl
  · rename_i p q hp
    obtain ⟨_, m, l, heff, hb, _⟩ := h.2.2.2.2.1 p q hp
    funext i
    simp only [heff, updBk, List.map_cons, List.map_nil, List.mem_singleton]
    by_cases hi : i = m
    · rw [if_pos hi, if_pos hi, hi, hb]; rfl
    · rw [if_neg hi, if_neg hi]

theorem chkKeys_some {X : Type} {d : X} {k : Option X} : ∀ {l : List (Int × Int)}, chkKeys l k = some d → k = some d ∧ ∀ p ∈ l, p.1 ≠ p.2
  | [], h => ⟨h, by simp⟩
  | p :: l, h => by
    simp only [chkKeys, chk] at h
    cases hb : (bnot (ieq p.1 p.2)) with
    | false => rw [hb] at h; cases h
    | true =>
      rw [hb] at h
      obtain ⟨h1, h2⟩ := chkKeys_some (l := l) h
      refine ⟨h1, fun q hq => ?_⟩
      rcases List.mem_cons.1 hq with rfl | hq
      · intro e
        simp [bnot, ieq, e] at hb
      · exact h2 q hq

theorem putPairs1_mem {b : Rec} : ∀ {l : List Rec} {j : Nat} {a : Rec} {p q p' q' : Int} {m : Nat}, l[j]? = some a → b.put = some (p, q) → a.put = some (p', q') → m ∈ b.ids → m ∈ a.ids → (p, p') ∈ putPairs1 b l
  | [], _, _, _, _, _, _, _, h, _, _, _, _ => by simp at h
  | x :: r, j, a, p, q, p', q', m, h, hb, ha, hm, hm' => by
    cases j with
    | zero =>
      simp only [List.getElem?_cons_zero, Option.some.injEq] at h
      subst h
      simp only [putPairs1, hb, ha, if_pos (meet_of hm hm'), List.mem_cons, true_or]
    | succ j =>
      have ih := putPairs1_mem (l := r) (j := j) (by simpa using h) hb ha hm hm'
      simp only [putPairs1, hb]
      split
      · split
        · rename_i h1 _ _
          rename_i p1 q1 _ _ _
          cases h1
          exact List.mem_cons_of_mem _ ih
        · exact ih
      · exact ih
theorem putPairs_mem : ∀ {l : List Rec} {i j : Nat} {b a : Rec} {p q p' q' : Int} {m : Nat}, i < j → l[i]? = some b → l[j]? = some a → b.put = some (p, q) → a.put = some (p', q') → m ∈ b.ids → m ∈ a.ids → (p, p') ∈ putPairs l
  | [], _, _, _, _, _, _, _, _, _, _, h, _, _, _, _, _ => by simp at h
  | x :: r, i, j, b, a, p, q, p', q', m, hij, h, h', hb, ha, hm, hm' => by
    simp only [putPairs, List.mem_append]
    cases j with
    | zero => omega
    | succ j =>
      cases i with
      | zero =>
        simp only [List.getElem?_cons_zero, Option.some.injEq] at h
        subst h
        exact .inl (putPairs1_mem (by simpa using h') hb ha hm hm')
      | succ i => exact .inr (putPairs_mem (l := r) (i := i) (j := j) (by omega) (by simpa using h) (by simpa using h') hb ha hm hm')

theorem runDraw_chain {X : Type} {ops : Array Oper} (hC : CtxOk P C) : ∀ (l : List Oper) (s : St) (recs : List Rec) (k : St → Option X) (d : X), runDraw C ops l s recs k = some d →
    ∃ steps sN, Chain P s.sl.length ops steps l s.slF s.bkF s.hp.length sN.slF sN.bkF sN.hp.length ∧ drawOk ops.toList (recs ++ steps.map (·.rc)) = true ∧ chkKeys (putPairs (recs ++ steps.map (·.rc))) (k sN) = some d ∧ sN.sl.length = s.sl.length ∧ sN.gs = s.gs
  | [], s, recs, k, d, h => by
    simp only [runDraw] at h
    split at h
    · exact ⟨[], s, ⟨rfl, rfl, rfl⟩, by simpa using ‹_›, by simpa using h, rfl, rfl⟩
    · cases h
  | o :: rest, s, recs, k, d, h => by
    -- one step put ahead
    have cons : ∀ (s1 : St) (rc : Rec) (e : Eff) (rn : Bool), s1.slF = s.slF → s1.hp = s.hp → s1.gs = s.gs → s1.sl.length = s.sl.length → rc.dst = o.dst →
        Step.ok P ops ⟨s.slF, s.bkF, s.hp.length, rc, e, rn⟩ o → runDraw C ops rest (s1.app o.dst e) (recs ++ [rc]) k = some d →
        ∃ steps sN, Chain P s.sl.length ops steps (o :: rest) s.slF s.bkF s.hp.length sN.slF sN.bkF sN.hp.length ∧ drawOk ops.toList (recs ++ steps.map (·.rc)) = true ∧ chkKeys (putPairs (recs ++ steps.map (·.rc))) (k sN) = some d ∧ sN.sl.length = s.sl.length ∧ sN.gs = s.gs := by
      intro s1 rc e rn e1 e2 e3 e4 hd hok hrun
      obtain ⟨steps, sN, c1, c2, c3, c4, c5⟩ := runDraw_chain hC rest _ _ k d hrun
      obtain ⟨a1, a2, a3, a4⟩ := app_lens (s := s1) (dst := o.dst) (e := e)
      have hbk : s1.bkF = s.bkF := by funext i; simp [St.bkF, e2]
      refine ⟨⟨s.slF, s.bkF, s.hp.length, rc, e, rn⟩ :: steps, sN, ⟨rfl, rfl, rfl, hok, (s1.app o.dst e).hp.length, by rw [← e2]; exact a1, a2, ?_⟩, ?_, ?_, by rw [c4, a3, e4], by rw [c5, a4, e3]⟩
      · rw [a3, e4, slF_app, bkF_app, e1, e4, hbk] at c1
        rw [hd, updS_text hok]
        exact c1
      · simpa using c2
      · simpa using c3
    simp only [runDraw] at h
    split at h
    · rename_i hgd
      cases hpq : putOf (maskS (opSlots ops o) s.slF) o with
      | none =>
        obtain ⟨e, h1, h2⟩ := opK_sound hC dead_mask h
        split at h1
        · rename_i hids
          refine cons s _ e true rfl rfl rfl rfl rfl ⟨rfl, rfl, fun _ => ⟨h2, fun i hi => ?_⟩, fun hh => (by cases hh), (fun p q hh => (by have hh' : putOf (maskS (opSlots ops o) s.slF) o = some (p, q) := hh; rw [hpq] at hh'; cases hh')), .inl ⟨hgd, rfl⟩⟩ h1
          have := List.all_eq_true.1 hids i hi
          simpa using this
        · cases h1
      | some pq =>
        obtain ⟨id, l, h1, hb, h2⟩ := opK_put hC hpq h
        split at h1
        · rename_i hids
          have hb' : s.bkF id = .mp true true l := by
            simp only [maskB] at hb
            split at hb
            · exact hb
            · cases hb
          have hlt : id < s.hp.length := by
            rcases Nat.lt_or_ge id s.hp.length with h' | h'
            · exact h'
            · rw [dead_past id h'] at hb'; cases hb'
          refine cons s _ _ true rfl rfl rfl rfl rfl ⟨rfl, rfl, fun _ => ⟨h2 _ l hb, fun i hi => ?_⟩, fun hh => (by cases hh), fun p q hh => ?_, .inl ⟨hgd, rfl⟩⟩ h1
          · have := List.all_eq_true.1 hids i hi
            simpa using this
          · have hh' : putOf (maskS (opSlots ops o) s.slF) o = some (p, q) := hh
            rw [hpq, Option.some.injEq] at hh'
            subst hh'
            exact ⟨rfl, id, l, rfl, hb', hlt, h2⟩
        · cases h1
    · rename_i j want hgd
      split at h
      · cases h
      · rename_i dd hdd
        have hmem : dd ∈ opSlots ops o := by
          unfold opSlots
          rw [hgd]
          simp [hdd]
        split at h
        · rename_i b hb
          have hsl : ∀ b', s.slF dd = scB b' → St.slF ⟨s.sl.set dd (scB b'), s.hp, s.gs⟩ = s.slF := fun b' hb' => Eng.set_same hb'
          have hln : ∀ b', (s.sl.set dd (scB b')).length = s.sl.length := fun b' => by simp
          have run : ∀ b', s.slF dd = scB b' → want = b' →
              (opK C s.hp.length (maskS (opSlots ops o) (St.slF ⟨s.sl.set dd (scB b'), s.hp, s.gs⟩)) (maskB (footOf ops o s) s.bkF) o fun e =>
                if e.ids.all (fun i => (footOf ops o s).contains i || decide (s.hp.length ≤ i)) = true then
                  runDraw C ops rest (St.app ⟨s.sl.set dd (scB b'), s.hp, s.gs⟩ o.dst e) (recs ++ [⟨o.dst, opSlots ops o, footOf ops o s, e.ids, none⟩]) k
                else none) = some d →
              ∃ steps sN, Chain P s.sl.length ops steps (o :: rest) s.slF s.bkF s.hp.length sN.slF sN.bkF sN.hp.length ∧ drawOk ops.toList (recs ++ steps.map (·.rc)) = true ∧ chkKeys (putPairs (recs ++ steps.map (·.rc))) (k sN) = some d ∧ sN.sl.length = s.sl.length ∧ sN.gs = s.gs := by
            intro b' hb' hw h
            obtain ⟨e, h1, h2⟩ := opK_sound hC dead_mask h
            split at h1
            · rename_i hids
              refine cons ⟨s.sl.set dd (scB b'), s.hp, s.gs⟩ _ e true (hsl b' hb') rfl rfl (hln b') rfl ⟨rfl, rfl, fun _ => ⟨by rw [hsl b' hb'] at h2; exact h2, fun i hi => ?_⟩, fun hh => (by cases hh), (fun p q hh => (by cases hh)),
                .inr ⟨j, want, dd, hgd, hdd, hmem, .inl ⟨b', hb', by rw [hw]; simp⟩⟩⟩ h1
              have := List.all_eq_true.1 hids i hi
              simpa using this
            · cases h1
          have skip : ∀ b', s.slF dd = scB b' → want = !b' → runDraw C ops rest (St.app ⟨s.sl.set dd (scB b'), s.hp, s.gs⟩ o.dst ⟨.tup [], []⟩) (recs ++ [⟨o.dst, [dd], [], [], none⟩]) k = some d →
              ∃ steps sN, Chain P s.sl.length ops steps (o :: rest) s.slF s.bkF s.hp.length sN.slF sN.bkF sN.hp.length ∧ drawOk ops.toList (recs ++ steps.map (·.rc)) = true ∧ chkKeys (putPairs (recs ++ steps.map (·.rc))) (k sN) = some d ∧ sN.sl.length = s.sl.length ∧ sN.gs = s.gs := by
            intro b' hb' hw h
            exact cons ⟨s.sl.set dd (scB b'), s.hp, s.gs⟩ _ _ false (hsl b' hb') rfl rfl (hln b') rfl ⟨rfl, rfl, fun hh => (by cases hh), fun _ => rfl, (fun p q hh => (by cases hh)),
              .inr ⟨j, want, dd, hgd, hdd, by simp, .inl ⟨b', hb', by rw [hw]; cases b' <;> rfl⟩⟩⟩ h
          cases b <;> cases want
          · simp only [cond_false] at h; exact run false hb rfl h
          · simp only [cond_false] at h; exact skip false hb rfl h
          · simp only [cond_true] at h; exact skip true hb rfl h
          · simp only [cond_true] at h; exact run true hb rfl h
        · rename_i hb
          exact cons s _ _ false rfl rfl rfl rfl rfl ⟨rfl, rfl, fun hh => (by cases hh), fun _ => rfl, (fun p q hh => (by cases hh)), .inr ⟨j, want, dd, hgd, hdd, by simp, .inr ⟨hb, rfl⟩⟩⟩ h
        · cases h

theorem Good.drew {ρ : Rho} {S : Nat → List Nat} {R : Nat → Prop} (h : Good n gh w0 S0 R0 s a w ρ S R) : Good n gh w0 S0 R0 s a { w with drawn := w.drawn + 1 } ρ S R := by
  have p : Post w R ρ S s.bkF ⟨.tup [], []⟩ { w with drawn := w.drawn + 1 } R ρ S undef :=
    ⟨fun _ _ h => h, fun _ _ => rfl, h.inv.one, fun _ _ => rfl, fun _ hi => by simp [Eff.ids] at hi, Keeps.drew _ w, fun _ hi => by simp [Eff.ids] at hi, fun _ hi => by simp [Eff.ids] at hi,
      fun _ hi => by simp [Eff.ids] at hi, fun _ h => h, fun _ h => .inl h, h.inv.Rlt, fun _ hi => by simp [Eff.ids] at hi, undef_tup⟩
  exact h.step p none

theorem runDraw_sound {X : Type} {Q : Exit → Act → World → Prop} {id : Nat} {ops : Array Oper} (hC : CtxOk P C) {k : St → Option X} {d : X} (h : runDraw C ops ops.toList s [] k = some d) (hg : GoodE n gh w0 S0 R0 s a w)
    (hq : ∀ s' a' w', k s' = some d → GoodE n gh w0 S0 R0 s' a' w' → Q .normal a' w') : (Code.region id ops true).wp P Q a w := by
  obtain ⟨ρ, S, R, hg⟩ := hg
  obtain ⟨steps, sN, hch, hok, hkk, hl, hgs⟩ := runDraw_chain hC ops.toList s [] k d h
  obtain ⟨hk, hneq⟩ := chkKeys_some hkk
  have hg' := hg.drew
  have hLn : ∀ i, (Array.replicate ops.size false).getD i false = false := by
    intro i
    simp only [Array.getD_eq_getD_getElem?, Array.getElem?_replicate]
    split <;> rfl
  rw [hg.len] at hch
  refine wp_region_any hC.mixed (draw_sound (n := n) (gh := gh) (w0 := w0) (S0 := S0) (R0 := R0) (gs := s.gs) (base := s.hp.length) hch (by simpa using hok) (fun i j x y p q p' q' m hij hi hj hx hy hm hm' => ?_) ?_ ops.size _ (by simp) ?_ ?_ a _ ?_)
  · exact hneq (p, p') (by
      rw [List.nil_append]
      exact putPairs_mem hij (by rw [List.getElem?_map, hi]; rfl) (by rw [List.getElem?_map, hj]; rfl) hx hy hm hm')
  · intro a' w' ⟨ρ', S', R', hm⟩
    obtain ⟨h1, _, h3⟩ := hch.nx_le
    refine hq sN a' w' hk ⟨ρ', S', R', hm.inv, by rw [hl, hg.len], fun i hi => hm.fresh i (by omega) fun j st hj _ hin => ?_, by rw [hgs]; exact hm.ghost, hm.keep, hm.own, hm.RR, hm.Rn⟩
    have := (h3 j st hj).2 i hin
    omega
  · exact Nat.le_trans (List.length_filter_le _ _) (by simp)
  · intro j o _ hj
    rw [hLn] at hj; cases hj
  · have e1 : slL n (fun i => (Array.replicate ops.size false).getD i false) steps 0 s.slF = s.slF := funext fun t => slL_skip fun j st _ _ => hLn _
    have e2 : bkL (fun i => (Array.replicate ops.size false).getD i false) steps 0 s.bkF = s.bkF := funext fun t => bkL_skip fun j st _ _ => hLn _
    rw [e1, e2]
    exact ⟨ρ, S, R, hg'.inv, fun i hi _ => hg'.fresh i hi, hg'.ghost, hg'.keep, hg'.own, hg'.RR, hg'.Rn⟩

/-- How a piece of code ends. -/
def Ex.is : Ex → Exit → Prop
  | .norm, e => e = .normal
  | .exit id, e => e = .exit id
  | .ret, e => e = .ret

theorem iter_some {σ X : Type} {f : σ → Option (σ ⊕ X)} {s : σ} {d : X} (h : iter f s = some d) : ∃ N, iterN f N s = some d := by
  unfold iter at h
  split at h
  · rename_i hh
    cases h
    exact ⟨_, Classical.choose_spec (Classical.choose_spec hh)⟩
  · cases h

theorem GoodE.slot_bool (h : GoodE n gh w0 S0 R0 s a w) {c : Operand} {b : Bool} (hc : evalA s.slF c = .comp false [.sc (.bool b)]) : a.eval c = .bool b := by
  obtain ⟨ρ, S, R, h⟩ := h
  have h1 := evalA_sound h.inv c
  rw [hc] at h1
  exact (isAV_one (by simp) h1).1

theorem eqAtS_eq : ∀ {x y : AtS}, eqAtS x y = true → x = y := by
  intro x y h
  cases x <;> cases y <;> simp_all [eqAtS]
theorem eqAtSs_eq : ∀ {l m : List AtS}, eqAtSs l m = true → l = m
  | [], [], _ => rfl
  | x :: l, y :: m, h => by
    simp only [eqAtSs, Bool.and_eq_true] at h
    rw [eqAtS_eq h.1, eqAtSs_eq h.2]
  | [], _ :: _, h => by simp [eqAtSs] at h
  | _ :: _, [], h => by simp [eqAtSs] at h
theorem eqAVSs_eq : ∀ {l m : List AVS}, eqAVSs l m = true → l = m
  | [], [], _ => rfl
  | (b, x) :: l, (c, y) :: m, h => by
    simp only [eqAVSs, Bool.and_eq_true, beq_iff_eq] at h
    rw [h.1, eqAtSs_eq h.2.1, eqAVSs_eq h.2.2]
  | [], _ :: _, h => by simp [eqAVSs] at h
  | _ :: _, [], h => by simp [eqAVSs] at h
theorem eqBlkS_eq : ∀ {x y : BlkS}, eqBlkS x y = true → x = y
  | .dead, .dead, _ => rfl
  | .cells cs t, .cells cs' t', h => by
    simp only [eqBlkS, Bool.and_eq_true] at h
    rw [Nat.eq_of_beq_eq_true h.1, eqAtSs_eq h.2]
  | .row own e t, .row own' e' t', h => by
    simp only [eqBlkS, Bool.and_eq_true, beq_iff_eq, decide_eq_true_eq] at h
    rw [h.1, Nat.eq_of_beq_eq_true h.2.1, h.2.2]
  | .mp nn own, .mp nn' own', h => by
    simp only [eqBlkS, Bool.and_eq_true, beq_iff_eq] at h
    rw [h.1, h.2]
  | .mp _ _, .dead, h => by simp [eqBlkS] at h
  | .mp _ _, .cells _ _, h => by simp [eqBlkS] at h
  | .mp _ _, .row _ _ _, h => by simp [eqBlkS] at h
  | .dead, .mp _ _, h => by simp [eqBlkS] at h
  | .cells _ _, .mp _ _, h => by simp [eqBlkS] at h
  | .row _ _ _, .mp _ _, h => by simp [eqBlkS] at h
  | .dead, .cells _ _, h => by simp [eqBlkS] at h
  | .dead, .row _ _ _, h => by simp [eqBlkS] at h
  | .cells _ _, .dead, h => by simp [eqBlkS] at h
  | .cells _ _, .row _ _ _, h => by simp [eqBlkS] at h
  | .row _ _ _, .dead, h => by simp [eqBlkS] at h
  | .row _ _ _, .cells _ _, h => by simp [eqBlkS] at h
theorem eqBlkSs_eq : ∀ {l m : List BlkS}, eqBlkSs l m = true → l = m
  | [], [], _ => rfl
  | x :: l, y :: m, h => by
    simp only [eqBlkSs, Bool.and_eq_true] at h
    rw [eqBlkS_eq h.1, eqBlkSs_eq h.2]
  | [], _ :: _, h => by simp [eqBlkSs] at h
  | _ :: _, [], h => by simp [eqBlkSs] at h
theorem eqSh_eq {a b : Sh} (h : eqSh a b = true) : a = b := by
  simp only [eqSh, Bool.and_eq_true] at h
  obtain ⟨a1, a2, a3⟩ := a
  obtain ⟨b1, b2, b3⟩ := b
  simp only at h
  rw [eqAVSs_eq h.1, eqAVSs_eq h.2.1, eqBlkSs_eq h.2.2]

theorem castHL_self : ∀ (ts : List Ty) (x : HL ts), castHL ts ts x = some x
  | [], () => rfl
  | t :: ts, x => by
    simp only [castHL, dif_pos, castHL_self ts (htail t ts x)]
    cases ts with
    | nil => rfl
    | cons u us => rfl
theorem castSh_eq {a b : Sh} (hs : a = b) {x : shT a} {r : shT b} (h : castSh a b x = some r) : r = hs ▸ x := by
  subst hs
  rw [castSh, castHL_self] at h
  cases h; rfl

theorem mk_cast {sh' sh : Sh} (hs : sh' = sh) (lf : shT sh') (h : GoodE n gh w0 S0 R0 (mkSt sh' lf) a w) : GoodE n gh w0 S0 R0 (mkSt sh (hs ▸ lf)) a w := by
  subst hs; exact h

theorem run_sound (hC : CtxOk P C) : ∀ (c : Code) {X : Type} (s : St) (k : Ex → St → Option X) (d : X), run C c s k = some d → ∀ (a : Act) (w : World) (Q : Exit → Act → World → Prop), GoodE n gh w0 S0 R0 s a w →
    (∀ ex e s' a' w', ex.is e → k ex s' = some d → GoodE n gh w0 S0 R0 s' a' w' → Q e a' w') → c.wp P Q a w := by
  intro c
  induction c with
  | skip =>
    intro X s k d h a w Q hg hq
    exact wp_skip (hq .norm _ s a w rfl h hg)
  | ret =>
    intro X s k d h a w Q hg hq
    exact wp_ret (hq .ret _ s a w rfl h hg)
  | exit id =>
    intro X s k d h a w Q hg hq
    exact wp_exit (hq (.exit id) _ s a w rfl h hg)
  | region id ops dr =>
    intro X s k d h a w Q hg hq
    cases dr with
    | false => exact wp_region_list (runOps_sound hC ops.toList s (k .norm) d h a w hg fun s' a' w' h1 h2 => hq .norm _ s' a' w' rfl h1 h2)
    | true => exact runDraw_sound hC (k := k .norm) h hg fun s' a' w' h1 h2 => hq .norm _ s' a' w' rfl h1 h2
  | seq x y ihx ihy =>
    intro X s k d h a w Q hg hq
    refine wp_seq (ihx s _ d h a w _ hg ?_)
    intro ex e s' a' w' he hk hg'
    cases ex with
    | norm => cases he; exact ihy s' k d hk a' w' Q hg' hq
    | exit id => cases he; exact hq (.exit id) _ s' a' w' rfl hk hg'
    | ret => cases he; exact hq .ret _ s' a' w' rfl hk hg'
  | cond c t e iht ihe =>
    intro X s k d h a w Q hg hq
    simp only [run] at h
    split at h
    · rename_i b hb
      refine wp_cond_split (hg.slot_bool hb) (fun hb' => ?_) (fun hb' => ?_)
      · subst hb'; exact iht s k d h a w Q hg hq
      · subst hb'; exact ihe s k d h a w Q hg hq
    · cases h
  | block id body ih =>
    intro X s k d h a w Q hg hq
    refine wp_block (ih s _ d h a w _ hg ?_)
    intro ex e s' a' w' he hk hg'
    cases ex with
    | norm => cases he; exact hq .norm _ s' a' w' rfl hk hg'
    | ret => cases he; exact hq .ret _ s' a' w' rfl hk hg'
    | exit j =>
      cases he
      simp only [Exit.inBlock]
      by_cases hj : j = id
      · simp only [if_pos hj] at hk ⊢
        exact hq .norm _ s' a' w' rfl hk hg'
      · simp only [if_neg hj] at hk ⊢
        exact hq (.exit j) _ s' a' w' rfl hk hg'
  | loop body ih =>
    intro X s k d h a w Q hg hq
    simp only [run] at h
    obtain ⟨N, hN⟩ := iter_some h
    have hg0 := hg.head (C.live (firstId body))
    refine wp_loop_rounds N ?_
    have key : ∀ (sh : Sh) (f : shT sh → Option (shT sh ⊕ X)), (f = fun σ => run C body (X := shT sh ⊕ X) (mkSt sh σ) fun ex s' => match ex with
        | .norm => loopK sh (s'.head (C.live (firstId body)))
        | ex => (k ex s').map .inr) → ∀ (N : Nat) (σ : shT sh), iterN f N σ = some d → ∀ (a : Act) (w : World), GoodE n gh w0 S0 R0 (mkSt sh σ) a w → Code.rounds P body Q N a w := by
      intro sh f hf N
      induction N with
      | zero => intro σ hN; simp [iterN] at hN
      | succ N ihN =>
        intro σ hN a w hg
        rw [rounds_succ]
        simp only [iterN] at hN
        cases hfs : f σ with
        | none => rw [hfs] at hN; cases hN
        | some z =>
          rw [hfs] at hN
          rw [hf] at hfs
          refine ih _ _ z hfs a w _ hg ?_
          intro ex e s' a' w' he hk hg'
          cases ex with
          | norm =>
            cases he
            simp only [loopK] at hk
            split at hk
            · rename_i hs
              split at hk
              · rename_i r hr
                cases hk
                simp only at hN
                rw [castSh_eq (eqSh_eq hs) hr] at hN
                exact ihN _ hN a' w' (mk_cast (eqSh_eq hs) _ (hg'.head (C.live (firstId body))))
              · cases hk
            · cases hk
          | exit id =>
            cases he
            simp only [Option.map_eq_some_iff] at hk
            obtain ⟨x, hk, rfl⟩ := hk
            simp only [Option.some.injEq] at hN
            subst hN
            exact hq (.exit id) _ s' a' w' rfl hk hg'
          | ret =>
            cases he
            simp only [Option.map_eq_some_iff] at hk
            obtain ⟨x, hk, rfl⟩ := hk
            simp only [Option.some.injEq] at hN
            subst hN
            exact hq .ret _ s' a' w' rfl hk hg'
    exact key _ _ rfl N _ hN a w hg0
  | _ => intro X s k d h a w Q hg hq; simp [run] at h

end Go.Eng
