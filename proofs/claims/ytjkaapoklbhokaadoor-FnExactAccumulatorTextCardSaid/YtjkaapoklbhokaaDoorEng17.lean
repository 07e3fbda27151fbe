/- The engine, part 17: a state that describes a frame and a world keeps describing them, operation by operation; heads of loops. Conditions: what the engine is told of the program is true. -/
import Derived.Test.YtjkaapoklbhokaaDoorEng16
set_option linter.all false
namespace Go.Eng
open Go.RowKit

variable {P : Program} {C : Ctx}

structure CtxOk (P : Program) (C : Ctx) : Prop where
  ti : TIs P C.ti
  con : ∀ f c, c ∈ C.con f → Meets P f c
  mixed : P.follows .mixedOrders = true
  eqs : ∀ T ks, C.eqs T = some ks → eqFlatB P T ks = true

theorem callL_sound {X : Type} {nx : Nat} {sl : Nat → AV} {bk : Nat → Blk} {o : Oper} {f : FuncId} {avs : List AV} {k : Eff → Option X} {d : X} (hlt : ∀ i, nx ≤ i → bk i = .dead)
    (hent : ∀ c, Meets P f c → ∀ (n : Nat) (w : World) (R : Nat → Prop) (ρ : Rho) (S : Nat → List Nat) (a : Act), Inv n w R sl bk ρ S a → ∃ vs : List Value, All2 (isAV ρ) avs vs ∧ (execOp a.eval o).run P w = .ok (.enter f vs.toArray) w) :
    ∀ cs : List Con, (∀ c ∈ cs, Meets P f c) → callL cs nx bk avs k = some d → ∃ e, k e = some d ∧ OpSound P o sl bk nx e
  | [], _, h => by simp [callL] at h
  | c :: cs, hm, h => by
    simp only [callL] at h
    split at h
    · exact callK_sound hlt (hm c (by simp)) (hent c (hm c (by simp))) h
    · exact callL_sound hlt hent cs (fun c hc => hm c (by simp [hc])) h

theorem opK_sound {X : Type} {nx : Nat} {sl : Nat → AV} {bk : Nat → Blk} {o : Oper} {k : Eff → Option X} {d : X} (hC : CtxOk P C) (hlt : ∀ i, nx ≤ i → bk i = .dead) (h : opK C nx sl bk o k = some d) : ∃ e, k e = some d ∧ OpSound P o sl bk nx e := by
  unfold opK at h
  split at h
  · rename_i fo args tys ho
    split at h
    · rename_i f hf
      exact callL_sound hlt (fun c hm => ent_fn hm ho hf) (C.con f) (hC.con f) h
    · rename_i f caps hf
      exact callL_sound hlt (fun c hm => ent_clo hm ho hf) (C.con f) (hC.con f) h
    · cases h
  · rename_i op T x y yT ho
    split at h
    · rename_i cs ds hx hy
      split at h
      · rename_i ks hks
        split at h
        · rename_i r hr
          split at h
          · exact ⟨_, h, sound_eqS (op := .eql) (.inl rfl) ho (hC.eqs _ _ hks) hx hy hr⟩
          · exact ⟨_, h, sound_eqS (op := .neq) (.inr rfl) ho (hC.eqs _ _ hks) hx hy hr⟩
          · cases h
        · cases h
      · cases h
    · exact aop_sound hC.ti hlt h
  · exact aop_sound hC.ti hlt h

theorem getD_setPad : ∀ (l : List Blk) (i : Nat) (b : Blk) (j : Nat), (setPad l i b).getD j .dead = if j = i then b else l.getD j .dead
  | [], 0, b, j => by cases j <;> simp [setPad]
  | [], i + 1, b, 0 => by simp [setPad]
  | [], i + 1, b, j + 1 => by
    have := getD_setPad [] i b j
    simp only [setPad, List.getD_cons_succ, this, Nat.add_right_cancel_iff]
    simp
  | x :: l, 0, b, j => by cases j <;> simp [setPad]
  | x :: l, i + 1, b, 0 => by simp [setPad]
  | x :: l, i + 1, b, j + 1 => by
    have := getD_setPad l i b j
    simp only [setPad, List.getD_cons_succ, this, Nat.add_right_cancel_iff]

theorem len_setPad : ∀ (l : List Blk) (i : Nat) (b : Blk), l.length ≤ (setPad l i b).length ∧ i < (setPad l i b).length
  | [], 0, b => by simp [setPad]
  | [], i + 1, b => by
    have := len_setPad [] i b
    simp only [setPad, List.length_cons]; omega
  | x :: l, 0, b => by simp [setPad]
  | x :: l, i + 1, b => by
    have := len_setPad l i b
    simp only [setPad, List.length_cons]; omega

theorem getD_updHp (l : List (Nat × Blk)) (h : List Blk) (j : Nat) : (updHp l h).getD j .dead = updBk l (fun i => h.getD i .dead) j := by
  induction l with
  | nil => rfl
  | cons p l ih => simp only [updHp, getD_setPad, ih, updBk]

theorem len_updHp (l : List (Nat × Blk)) (h : List Blk) : h.length ≤ (updHp l h).length ∧ ∀ i ∈ l.map (·.1), i < (updHp l h).length := by
  induction l with
  | nil => exact ⟨Nat.le_refl _, by simp⟩
  | cons p l ih =>
    obtain ⟨i, b⟩ := p
    obtain ⟨h1, h2⟩ := len_setPad (updHp l h) i b
    refine ⟨by simp only [updHp]; omega, fun j hj => ?_⟩
    simp only [List.map_cons, List.mem_cons] at hj
    simp only [updHp]
    rcases hj with rfl | hj
    · exact h2
    · have := ih.2 j hj; omega

theorem slF_app {s : St} {dst : Option Nat} {e : Eff} : (s.app dst e).slF = updSl s.sl.length dst e.val s.slF := by
  funext t
  cases dst with
  | none => rfl
  | some d =>
    simp only [St.slF, St.app, updSl, List.getD_eq_getElem?_getD, List.getElem?_set]
    by_cases h : t = d
    · subst h
      by_cases h2 : t < s.sl.length
      · simp [h2]
      · simp [h2]
    · simp [h, Ne.symm h]

theorem bkF_app {s : St} {dst : Option Nat} {e : Eff} : (s.app dst e).bkF = updBk e.upd s.bkF := by
  funext j
  exact getD_updHp e.upd s.hp j

/-- The state s describes the frame a and the world w of a call that began in w0, owning the blocks S0, reading those of R0; gh are the values of the parameters that are to be rewritten. -/
structure Good (n : Nat) (gh : Nat → Value) (w0 : World) (S0 : List Nat) (R0 : Nat → Prop) (s : St) (a : Act) (w : World) (ρ : Rho) (S : Nat → List Nat) (R : Nat → Prop) : Prop where
  inv : Inv n w R s.slF s.bkF ρ S a
  len : s.sl.length = n
  fresh : ∀ i, s.hp.length ≤ i → ρ i = none
  ghost : ∀ j, isAV ρ (s.gs.getD j .unk) (gh j)
  keep : Keeps (· ∈ S0) w0 w
  own : ∀ i, ∀ b ∈ S i, b ∈ S0 ∨ w0.heap.size ≤ b
  RR : ∀ b, R0 b → R b
  Rn : ∀ b, R b → R0 b ∨ b ∈ S0 ∨ w0.heap.size ≤ b

variable {n : Nat} {gh : Nat → Value} {w0 : World} {S0 : List Nat} {R0 : Nat → Prop} {s : St} {a : Act} {w : World}

def GoodE (n : Nat) (gh : Nat → Value) (w0 : World) (S0 : List Nat) (R0 : Nat → Prop) (s : St) (a : Act) (w : World) : Prop := ∃ ρ S R, Good n gh w0 S0 R0 s a w ρ S R

theorem dead_past {s : St} : ∀ i, s.hp.length ≤ i → s.bkF i = .dead := by
  intro i hi
  simp [St.bkF, List.getD_eq_getElem?_getD, List.getElem?_eq_none hi]

theorem Good.step {ρ : Rho} {S : Nat → List Nat} {R : Nat → Prop} (h : Good n gh w0 S0 R0 s a w ρ S R) {e : Eff} {w' : World} {R' : Nat → Prop} {ρ' : Rho} {S' : Nat → List Nat} {v : Value}
    (p : Post w R ρ S s.bkF e w' R' ρ' S' v) (dst : Option Nat) : Good n gh w0 S0 R0 (s.app dst e) (a.put dst v) w' ρ' S' R' := by
  obtain ⟨l1, l2⟩ := len_updHp e.upd s.hp
  have hpl : (s.app dst e).hp.length = (updHp e.upd s.hp).length := rfl
  refine ⟨?_, ?_, fun i hi => ?_, fun j => (h.ghost j).ext p.ext, ?_, fun i b hb => ?_, fun b hb => p.RR b (h.RR b hb), fun b hb => ?_⟩
  · rw [slF_app, bkF_app, h.len]
    exact h.inv.step p dst
  · cases dst <;> simp [St.app, h.len]
  · rw [hpl] at hi
    rw [p.sameρ i (fun hm => by have := l2 i hm; omega)]
    exact h.fresh i (by omega)
  · refine h.keep.trans p.keeps fun b hb ⟨j, _, hj⟩ => ?_
    rcases h.own j b hj with h1 | h1
    · exact h1
    · omega
  · by_cases hi : i ∈ e.ids
    · rcases p.own i hi b hb with ⟨j, _, hj⟩ | h1
      · exact h.own j b hj
      · right; have := h.keep.size; omega
    · rw [p.sameS i hi] at hb
      exact h.own i b hb
  · rcases p.Rnew b hb with h1 | ⟨j, _, hj⟩ | h1
    · exact h.Rn b h1
    · exact .inr (h.own j b hj)
    · right; right; have := h.keep.size; omega

theorem Good.op {ρ : Rho} {S : Nat → List Nat} {R : Nat → Prop} (h : Good n gh w0 S0 R0 s a w ρ S R) {o : Oper} {e : Eff} {next : Act → World → Prop} {Q : Exit → Act → World → Prop} (ho : OpSound P o s.slF s.bkF s.hp.length e)
    (hk : ∀ a' w', GoodE n gh w0 S0 R0 (s.app o.dst e) a' w' → next a' w') : o.wp P a w next Q :=
  ho n w R ρ S a next Q h.inv (fun i _ hi => h.fresh i hi) fun _ _ _ _ _ p => hk _ _ ⟨_, _, _, h.step p o.dst⟩

theorem Good.skip {ρ : Rho} {S : Nat → List Nat} {R : Nat → Prop} (h : Good n gh w0 S0 R0 s a w ρ S R) (dst : Option Nat) : GoodE n gh w0 S0 R0 (s.app dst ⟨.tup [], []⟩) (a.put dst undef) w :=
  ⟨_, _, _, h.step (Post.pure h.inv undef_tup) dst⟩

theorem set_same {s : St} {d : Nat} {v : AV} (h : s.slF d = v) : St.slF ⟨s.sl.set d v, s.hp, s.gs⟩ = s.slF := by
  funext t
  simp only [St.slF, List.getD_eq_getElem?_getD, List.getElem?_set]
  by_cases ht : d = t
  · subst ht
    by_cases h2 : d < s.sl.length
    · simp only [↓reduceIte, if_pos h2, Option.getD_some]
      rw [← h]; simp [St.slF, List.getD_eq_getElem?_getD]
    · simp [h2]
  · simp [ht]

theorem Good.set_same {ρ : Rho} {S : Nat → List Nat} {R : Nat → Prop} (h : Good n gh w0 S0 R0 s a w ρ S R) {d : Nat} {v : AV} (hd : s.slF d = v) : Good n gh w0 S0 R0 ⟨s.sl.set d v, s.hp, s.gs⟩ a w ρ S R :=
  ⟨by rw [Eng.set_same hd]; exact h.inv, by simp [h.len], h.fresh, h.ghost, h.keep, h.own, h.RR, h.Rn⟩

theorem yields_of {ops : Array Oper} {sl : Nat → AV} {bk : Nat → Blk} {ρ : Rho} {S : Nat → List Nat} {R : Nat → Prop} (h : Inv n w R sl bk ρ S a) {j d : Nat} {b : Bool} (hj : (ops[j]?).bind (·.dst) = some d) (hd : sl d = .comp false [.sc (.bool b)]) :
    yielded ops a.tmps j = some b := by
  have h1 := h.slots d
  rw [hd] at h1
  obtain ⟨h2, _⟩ := isAV_one (by simp) h1
  unfold yielded
  rw [hj]
  simp only [Option.bind_some]
  cases ht : a.tmps[d]? with
  | none => rw [Array.getD_eq_getD_getElem?, ht] at h2; simp [undef] at h2
  | some v => rw [Array.getD_eq_getD_getElem?, ht] at h2; simp only [Option.getD_some] at h2; rw [h2]

theorem yields_none {ops : Array Oper} {sl : Nat → AV} {bk : Nat → Blk} {ρ : Rho} {S : Nat → List Nat} {R : Nat → Prop} (h : Inv n w R sl bk ρ S a) {j d : Nat} (hj : (ops[j]?).bind (·.dst) = some d) (hd : sl d = .tup []) :
    yielded ops a.tmps j = none := by
  have h1 := h.slots d
  rw [hd] at h1
  obtain ⟨l, h2, h3⟩ := h1
  have hl : l = [] := by
    cases l with
    | nil => rfl
    | cons x l => exact h3.elim
  subst hl
  unfold yielded
  rw [hj]
  simp only [Option.bind_some]
  cases ht : a.tmps[d]? with
  | none => rfl
  | some v => rw [Array.getD_eq_getD_getElem?, ht] at h2; simp only [Option.getD_some] at h2; rw [h2]

theorem runOps_sound {X : Type} {Q : Exit → Act → World → Prop} {ops : Array Oper} (hC : CtxOk P C) : ∀ (l : List Oper) (s : St) (k : St → Option X) (d : X), runOps C ops l s k = some d → ∀ (a : Act) (w : World), GoodE n gh w0 S0 R0 s a w →
    (∀ s' a' w', k s' = some d → GoodE n gh w0 S0 R0 s' a' w' → Q .normal a' w') → wpList P ops Q l a w
  | [], s, k, d, h, a, w, hg, hq => hq s a w h hg
  | o :: rest, s, k, d, h, a, w, hg, hq => by
    obtain ⟨ρ, S, R, hg⟩ := hg
    simp only [runOps] at h
    split at h
    · rename_i hgd
      obtain ⟨e, h1, h2⟩ := opK_sound hC dead_past h
      unfold wpList
      rw [if_pos (by simp [Region.wanted, hgd])]
      exact .inl (hg.op h2 fun a' w' hg' => runOps_sound hC rest _ k d h1 a' w' hg' hq)
    · rename_i j want hgd
      split at h
      · cases h
      · rename_i dd hdd
        split at h
        · rename_i b hb
          have hy := yields_of (ops := ops) hg.inv hdd hb
          cases b
          · have hs := hg.set_same (d := dd) (v := scB false) hb
            cases want
            · simp only [cond_false] at h
              obtain ⟨e, h1, h2⟩ := opK_sound hC (dead_past (s := ⟨s.sl.set dd (scB false), s.hp, s.gs⟩)) h
              unfold wpList
              rw [if_pos (by simp [Region.wanted, hgd, hy])]
              exact .inl (hs.op h2 fun a' w' hg' => runOps_sound hC rest _ k d h1 a' w' hg' hq)
            · simp only [cond_false] at h
              unfold wpList
              rw [if_neg (by simp [Region.wanted, hgd, hy])]
              exact runOps_sound hC rest _ k d h _ _ (hs.skip o.dst) hq
          · have hs := hg.set_same (d := dd) (v := scB true) hb
            cases want
            · simp only [cond_true] at h
              unfold wpList
              rw [if_neg (by simp [Region.wanted, hgd, hy])]
              exact runOps_sound hC rest _ k d h _ _ (hs.skip o.dst) hq
            · simp only [cond_true] at h
              obtain ⟨e, h1, h2⟩ := opK_sound hC (dead_past (s := ⟨s.sl.set dd (scB true), s.hp, s.gs⟩)) h
              unfold wpList
              rw [if_pos (by simp [Region.wanted, hgd, hy])]
              exact .inl (hs.op h2 fun a' w' hg' => runOps_sound hC rest _ k d h1 a' w' hg' hq)
        · rename_i hb
          have hy := yields_none (ops := ops) hg.inv hdd hb
          unfold wpList
          rw [if_neg (by simp [Region.wanted, hgd, hy])]
          exact runOps_sound hC rest _ k d h _ _ (hg.skip o.dst) hq
        · cases h

/- Forgetting, renumbering. -/
def fgAt : At → At
  | .sc (.int k x) => .sc (.int k x)
  | .sc (.bool x) => .sc (.bool x)
  | .sc (.string x) => .sc (.string x)
  | .sc (.slice none 0 0) => .sc (.slice none 0 0)
  | .ptr id off => .ptr id off
  | .eptr id 0 sz j => .eptr id 0 sz j
  | .sl id => .sl id
  | .fn f => .fn f
  | .clo f caps => .clo f caps
  | _ => .unk

def fgAV : AV → AV
  | .comp b cs => .comp b (cs.map fgAt)
  | .tup _ => .unk
def fgBlk : Blk → Blk
  | .cells cs t => .cells (cs.map fgAt) t
  | .hole _ _ _ _ _ _ _ => .dead
  | b => b

theorem mk_leafL : ∀ (l : List At) (ts : List Ty) (r : HL ts), mkL (l.map shAt) ts (leafL l ts r) = (l.map fgAt, r)
  | [], _, _ => rfl
  | x :: l, ts, r => by
    have ih := mk_leafL l ts r
    have unk : ∀ y : At, ((y :: (mkL (l.map shAt) ts (leafL l ts r)).1, (mkL (l.map shAt) ts (leafL l ts r)).2) : List At × HL ts) = (y :: l.map fgAt, r) := fun y => by rw [ih]
    cases x with
    | sc v =>
      cases v with
      | slice A m c =>
        cases A with
        | some A => exact unk .unk
        | none =>
          cases m with
          | succ m => exact unk .unk
          | zero => cases c with
            | zero => exact unk (.sc (.slice none 0 0))
            | succ c => exact unk .unk
      | int k x =>
        change ((At.sc (.int k (hhead (.int k) (tysL (l.map shAt) ts) (hcons (.int k) _ x (leafL l ts r)))) :: (mkL (l.map shAt) ts (htail (.int k) _ (hcons (.int k) _ x (leafL l ts r)))).1, (mkL (l.map shAt) ts (htail (.int k) _ (hcons (.int k) _ x (leafL l ts r)))).2) : List At × HL ts) = _
        rw [htail_hcons, hhead_hcons]; exact unk _
      | bool x =>
        change ((At.sc (.bool (hhead .bool (tysL (l.map shAt) ts) (hcons .bool _ x (leafL l ts r)))) :: (mkL (l.map shAt) ts (htail .bool _ (hcons .bool _ x (leafL l ts r)))).1, (mkL (l.map shAt) ts (htail .bool _ (hcons .bool _ x (leafL l ts r)))).2) : List At × HL ts) = _
        rw [htail_hcons, hhead_hcons]; exact unk _
      | string x =>
        change ((At.sc (.string (hhead .str (tysL (l.map shAt) ts) (hcons .str _ x (leafL l ts r)))) :: (mkL (l.map shAt) ts (htail .str _ (hcons .str _ x (leafL l ts r)))).1, (mkL (l.map shAt) ts (htail .str _ (hcons .str _ x (leafL l ts r)))).2) : List At × HL ts) = _
        rw [htail_hcons, hhead_hcons]; exact unk _
      | _ => exact unk .unk
    | ptr id off => exact unk (.ptr id off)
    | eptr id i sz j =>
      cases i with
      | zero => exact unk (.eptr id 0 sz j)
      | succ i => exact unk .unk
    | sl id => exact unk (.sl id)
    | fn f => exact unk (.fn f)
    | clo f caps => exact unk (.clo f caps)
    | _ => exact unk .unk

theorem mk_leafSl : ∀ (l : List AV) (ts : List Ty) (r : HL ts), mkSl (l.map shAV) ts (leafSl l ts r) = (l.map fgAV, r)
  | [], _, _ => rfl
  | .comp b cs :: l, ts, r => by
    have ih := mk_leafSl l ts r
    change ((AV.comp b (mkL (cs.map shAt) (tysSl (l.map shAV) ts) (leafL cs (tysSl (l.map shAV) ts) (leafSl l ts r))).1 :: (mkSl (l.map shAV) ts (mkL (cs.map shAt) (tysSl (l.map shAV) ts) (leafL cs (tysSl (l.map shAV) ts) (leafSl l ts r))).2).1,
      (mkSl (l.map shAV) ts (mkL (cs.map shAt) (tysSl (l.map shAV) ts) (leafL cs (tysSl (l.map shAV) ts) (leafSl l ts r))).2).2) : List AV × HL ts) = _
    rw [mk_leafL]
    change ((AV.comp b (cs.map fgAt) :: (mkSl (l.map shAV) ts (leafSl l ts r)).1, (mkSl (l.map shAV) ts (leafSl l ts r)).2) : List AV × HL ts) = _
    rw [ih]
    rfl
  | .tup vs :: l, ts, r => by
    have ih := mk_leafSl l ts r
    change ((AV.comp false [.unk] :: (mkSl (l.map shAV) ts (leafSl l ts r)).1, (mkSl (l.map shAV) ts (leafSl l ts r)).2) : List AV × HL ts) = _
    rw [ih]
    rfl

theorem mk_leafHp : ∀ (l : List Blk) (ts : List Ty) (r : HL ts), mkHp (l.map shBlk) ts (leafHp l ts r) = l.map fgBlk
  | [], _, _ => rfl
  | .dead :: l, ts, r => by
    change Blk.dead :: mkHp (l.map shBlk) ts (leafHp l ts r) = _
    rw [mk_leafHp l ts r]; rfl
  | .cells cs t :: l, ts, r => by
    have ih := mk_leafHp l ts r
    change Blk.cells (mkL (cs.map shAt) (tysHp (l.map shBlk) ts) (leafL cs (tysHp (l.map shBlk) ts) (leafHp l ts r))).1 t :: mkHp (l.map shBlk) ts (mkL (cs.map shAt) (tysHp (l.map shBlk) ts) (leafL cs (tysHp (l.map shBlk) ts) (leafHp l ts r))).2 = _
    rw [mk_leafL]
    change Blk.cells (cs.map fgAt) t :: mkHp (l.map shBlk) ts (leafHp l ts r) = _
    rw [ih]; rfl
  | .row own e t xs :: l, ts, r => by
    have ih := mk_leafHp l ts r
    change Blk.row own e t (hhead (.row own e t) _ (hcons (.row own e t) (tysHp (l.map shBlk) ts) xs (leafHp l ts r))) :: mkHp (l.map shBlk) ts (htail (.row own e t) _ (hcons (.row own e t) (tysHp (l.map shBlk) ts) xs (leafHp l ts r))) = _
    rw [htail_hcons, hhead_hcons, ih]; rfl
  | .mp nn own m :: l, ts, r => by
    have ih := mk_leafHp l ts r
    change Blk.mp nn own (hhead (.map own) _ (hcons (.map own) (tysHp (l.map shBlk) ts) m (leafHp l ts r))) :: mkHp (l.map shBlk) ts (htail (.map own) _ (hcons (.map own) (tysHp (l.map shBlk) ts) m (leafHp l ts r))) = _
    rw [htail_hcons, hhead_hcons, ih]; rfl
  | .hole _ _ _ _ _ _ _ :: l, ts, r => by
    change Blk.dead :: mkHp (l.map shBlk) ts (leafHp l ts r) = _
    rw [mk_leafHp l ts r]; rfl

theorem mk_leaf (s : St) : mkSt s.sh s.leaf = ⟨s.sl.map fgAV, s.hp.map fgBlk, s.gs.map fgAV⟩ := by
  have h1 := mk_leafSl s.sl _ (leafSl s.gs _ (leafHp s.hp [] ()))
  have h2 := mk_leafSl s.gs _ (leafHp s.hp [] ())
  have h3 := mk_leafHp s.hp [] ()
  change (⟨(mkSl (s.sl.map shAV) _ (leafSl s.sl _ (leafSl s.gs _ (leafHp s.hp [] ())))).1, mkHp (s.hp.map shBlk) [] (mkSl (s.gs.map shAV) _ (mkSl (s.sl.map shAV) _ (leafSl s.sl _ (leafSl s.gs _ (leafHp s.hp [] ())))).2).2,
    (mkSl (s.gs.map shAV) _ (mkSl (s.sl.map shAV) _ (leafSl s.sl _ (leafSl s.gs _ (leafHp s.hp [] ())))).2).1⟩ : St) = _
  rw [h1]
  change (⟨s.sl.map fgAV, mkHp (s.hp.map shBlk) [] (mkSl (s.gs.map shAV) _ (leafSl s.gs _ (leafHp s.hp [] ()))).2, (mkSl (s.gs.map shAV) _ (leafSl s.gs _ (leafHp s.hp [] ()))).1⟩ : St) = _
  rw [h2]
  change (⟨s.sl.map fgAV, mkHp (s.hp.map shBlk) [] (leafHp s.hp [] ()), s.gs.map fgAV⟩ : St) = _
  rw [h3]

theorem fg_at {ρ : Rho} {v : Value} : ∀ {x : At}, isAt ρ x v → isAt ρ (fgAt x) v := by
  intro x h
  unfold fgAt
  split <;> first | exact h | trivial

theorem map_at {ρ ρ' : Rho} {f : At → At} (hf : ∀ x v, isAt ρ x v → isAt ρ' (f x) v) : ∀ {l : List At} {vs : List Value}, All2 (isAt ρ) l vs → All2 (isAt ρ') (l.map f) vs
  | [], [], _ => trivial
  | _ :: _, _ :: _, h => ⟨hf _ _ h.1, map_at hf h.2⟩
  | [], _ :: _, h => h.elim
  | _ :: _, [], h => h.elim

theorem map_av {ρ ρ' : Rho} {f : At → At} (hf : ∀ x v, isAt ρ x v → isAt ρ' (f x) v) (hu : f .unk = .unk) {b : Bool} {cs : List At} {v : Value} (h : isAV ρ (.comp b cs) v) : isAV ρ' (.comp b (cs.map f)) v := by
  rcases h with ⟨h1, h2⟩ | h
  · exact .inl ⟨h1, by rw [h2]; simp [hu]⟩
  · cases b
    · obtain ⟨c, h1, h2⟩ := h
      have h1' : cs = [c] := h1
      subst h1'
      exact .inr ⟨f c, rfl, hf _ _ h2⟩
    · obtain ⟨vs, h1, h2⟩ := h
      exact .inr ⟨vs, h1, map_at hf h2⟩

theorem fg_av {ρ : Rho} {v : Value} : ∀ {x : AV}, isAV ρ x v → isAV ρ (fgAV x) v
  | .comp _ _, h => map_av (fun _ _ => fg_at) rfl h
  | .tup _, _ => .inl ⟨rfl, rfl⟩

theorem unk_av {ρ : Rho} {v : Value} : isAV ρ .unk v := .inl ⟨rfl, rfl⟩

theorem getD_map {α β : Type} {f : α → β} {d : α} {d' : β} (hd : f d = d') (l : List α) (i : Nat) : (l.map f).getD i d' = f (l.getD i d) := by
  simp only [List.getD_eq_getElem?_getD, List.getElem?_map]
  cases l[i]? <;> simp [hd]

def Blk.isHole : Blk → Bool
  | .hole _ _ _ _ _ _ _ => true
  | _ => false

/-- What a hole owns is forgotten. -/
theorem Good.forget {ρ : Rho} {S : Nat → List Nat} {R : Nat → Prop} (h : Good n gh w0 S0 R0 s a w ρ S R) : Good n gh w0 S0 R0 ⟨s.sl.map fgAV, s.hp.map fgBlk, s.gs.map fgAV⟩ a w ρ (fun i => match (s.bkF i).isHole with | true => [] | false => S i) R := by
  have hsub : ∀ i b, b ∈ (match (s.bkF i).isHole with | true => [] | false => S i) → b ∈ S i := fun i b hb => by
    cases hh : (s.bkF i).isHole <;> rw [hh] at hb
    · exact hb
    · simp at hb
  refine ⟨⟨h.inv.size, h.inv.defers, fun t => ?_, fun i => ?_, h.inv.one, fun i => ?_, fun i j hij b hb hb' => h.inv.disj i j hij b (hsub i b hb) (hsub j b hb'), fun i b hb => h.inv.offR i b (hsub i b hb), h.inv.Rlt, h.inv.glob⟩, by simp [h.len], fun i hi => h.fresh i (by simpa using hi), fun j => ?_, h.keep, fun i b hb => h.own i b (hsub i b hb), h.RR, h.Rn⟩
  · show isAV ρ ((s.sl.map fgAV).getD t .unk) _
    rw [getD_map (f := fgAV) (d := .unk) (by simp [fgAV, AV.unk, fgAt])]
    exact fg_av (h.inv.slots t)
  · show blkRep w R ρ (ρ i) (match (s.bkF i).isHole with | true => [] | false => S i) ((s.hp.map fgBlk).getD i .dead)
    rw [getD_map (f := fgBlk) (d := .dead) (d' := .dead) rfl]
    have hb := h.inv.blks i
    show blkRep w R ρ (ρ i) (match (s.bkF i).isHole with | true => [] | false => S i) (fgBlk (s.bkF i))
    cases hbk : s.bkF i with
    | dead => rw [hbk] at hb; exact hb
    | row own e t xs => rw [hbk] at hb; exact hb
    | mp nn own l => rw [hbk] at hb; exact hb
    | hole e t xs ix j u c => rfl
    | cells cs t =>
      rw [hbk] at hb
      obtain ⟨g, vs, h1, h2, h3, h4⟩ := hb
      exact ⟨g, vs, h1, h2, h3, map_at (fun _ _ => fg_at) h4⟩
  · show (match (s.bkF i).isHole with | true => [] | false => S i).Nodup
    cases (s.bkF i).isHole
    · exact h.inv.nodup i
    · exact List.nodup_nil
  · show isAV ρ ((s.gs.map fgAV).getD j .unk) _
    rw [getD_map (f := fgAV) (d := .unk) (by simp [fgAV, AV.unk, fgAt])]
    exact fg_av (h.ghost j)

theorem visit_nodup (bk : Nat → Blk) : ∀ (f : Nat) (todo acc : List Nat), acc.Nodup → (visit bk f todo acc).Nodup
  | 0, todo, acc, h => by cases todo <;> exact h
  | f + 1, [], acc, h => h
  | f + 1, i :: todo, acc, h => by
    simp only [visit]
    split
    · exact visit_nodup bk f todo acc h
    · rename_i hc
      refine visit_nodup bk f _ _ ?_
      rw [List.nodup_append]
      refine ⟨h, by simp, fun x hx y hy e => hc ?_⟩
      rw [List.mem_singleton] at hy
      subst hy; subst e
      simpa using hx

theorem liveSl_len (live : List Nat) (f : AV → AV) : ∀ (l : List AV) (t : Nat), (liveSl live f l t).length = l.length
  | [], _ => rfl
  | _ :: l, t => by simp [liveSl, liveSl_len live f l (t + 1)]

theorem liveSl_get (live : List Nat) (f : AV → AV) : ∀ (l : List AV) (t j : Nat), (liveSl live f l t).getD j .unk = .unk ∨ (liveSl live f l t).getD j .unk = f (l.getD j .unk)
  | [], _, j => .inl (by simp [liveSl])
  | v :: l, t, 0 => by
    simp only [liveSl, List.getD_cons_zero]
    split
    · exact .inr rfl
    · exact .inl rfl
  | v :: l, t, j + 1 => by
    simp only [liveSl, List.getD_cons_succ]
    exact liveSl_get live f l (t + 1) j

theorem idx_get {l : List Nat} {x : Nat} (h : x ∈ l) : l[l.idxOf x]? = some x := by
  have hl := List.idxOf_lt_length_iff.2 h
  rw [List.getElem?_eq_getElem hl, List.getElem_idxOf hl]

theorem Good.ren {ρ : Rho} {S : Nat → List Nat} {R : Nat → Prop} (h : Good n gh w0 S0 R0 s a w ρ S R) (live : List Nat) : GoodE n gh w0 S0 R0 (s.head0 live) a w := by
  generalize hord : visit s.bkF 200 ((live.flatMap fun t => idsAV (s.slF t)) ++ s.gs.flatMap idsAV) [] = ord
  have hnd : ord.Nodup := by rw [← hord]; exact visit_nodup _ _ _ _ List.nodup_nil
  have hhead : s.head0 live = ⟨liveSl live (renAV ord s.bkF) s.sl 0, ord.map fun i => renBlk ord s.bkF (s.bkF i), s.gs.map (renAV ord s.bkF)⟩ := by
    simp only [St.head0, hord]
  let ρ' : Rho := fun j => (ord[j]?).bind ρ
  let S1 : Nat → List Nat := fun i => match (s.bkF i).isHole with | true => [] | false => S i
  have hsub : ∀ i b, b ∈ S1 i → b ∈ S i := fun i b hb => by
    have hb' : b ∈ (match (s.bkF i).isHole with | true => [] | false => S i) := hb
    cases hh : (s.bkF i).isHole <;> rw [hh] at hb'
    · exact hb'
    · simp at hb'
  let S' : Nat → List Nat := fun j => match ord[j]? with | some i => S1 i | none => []
  have hat : ∀ x v, isAt ρ x v → isAt ρ' (renAt ord s.bkF x) v := by
    intro x v hx
    cases x with
    | unk => trivial
    | sc u => exact hx
    | eptr id i sz j =>
      simp only [renAt]
      split
      · trivial
      · split
        · rename_i hc
          obtain ⟨ad, m, c, h1, h2, h3⟩ := hx
          have hm : id ∈ ord := by simpa using hc
          refine ⟨ad, m, c, ?_, h2, h3⟩
          show (ord[ord.idxOf id]?).bind ρ = _
          rw [idx_get hm]
          exact h1
        · trivial
    | fn f => exact hx
    | ptr id off =>
      simp only [renAt]
      split
      · trivial
      · split
        · rename_i hc
          obtain ⟨g, h1, h2⟩ := hx
          have hm : id ∈ ord := by simpa using hc
          refine ⟨g, ?_, h2⟩
          show (ord[ord.idxOf id]?).bind ρ = _
          rw [idx_get hm]
          exact h1
        · trivial
    | sl id =>
      simp only [renAt]
      split
      · trivial
      · split
        · rename_i hc
          have hm : id ∈ ord := by simpa using hc
          show (ord[ord.idxOf id]?).bind ρ = _
          rw [idx_get hm]
          exact hx
        · trivial
    | clo f caps =>
      simp only [renAt]
      split
      · rename_i hc
        obtain ⟨vs, h1, h2⟩ := hx
        refine ⟨vs, h1, ?_⟩
        rw [List.all_eq_true] at hc
        clear h1
        induction caps generalizing vs with
        | nil =>
          cases vs with
          | nil => exact trivial
          | cons u vs => exact h2.elim
        | cons p caps ih =>
          cases vs with
          | nil => exact h2.elim
          | cons u vs =>
            obtain ⟨⟨g, h3, h4⟩, h5⟩ := h2
            refine ⟨⟨g, ?_, h4⟩, ih (fun x hx => hc x (by simp [hx])) vs h5⟩
            have hm : p.1 ∈ ord := by simpa using hc p (by simp)
            show (ord[ord.idxOf p.1]?).bind ρ = _
            rw [idx_get hm]
            exact h3
      · trivial
  have hav : ∀ x v, isAV ρ x v → isAV ρ' (renAV ord s.bkF x) v := by
    intro x v hx
    cases x with
    | comp b cs => exact map_av hat rfl hx
    | tup vs => exact unk_av
  have hinj : ∀ i j k : Nat, ord[i]? = some k → ord[j]? = some k → i = j := by
    intro i j k hi hj
    have hil := (List.getElem?_eq_some_iff.1 hi).1
    exact (List.getElem?_inj hil hnd).1 (hi.trans hj.symm)
  rw [hhead]
  refine ⟨ρ', S', R, ⟨h.inv.size, h.inv.defers, fun t => ?_, fun i => ?_, fun i u hu => ?_, fun i => ?_, fun i j hij b hb hb' => ?_, fun i b hb => ?_, h.inv.Rlt, h.inv.glob⟩, ?_, fun i hi => ?_, fun j => ?_, h.keep, fun i b hb => ?_, h.RR, h.Rn⟩
  · show isAV ρ' ((liveSl live (renAV ord s.bkF) s.sl 0).getD t .unk) _
    rcases liveSl_get live (renAV ord s.bkF) s.sl 0 t with h1 | h1
    · rw [h1]; exact unk_av
    · rw [h1]; exact hav _ _ (h.inv.slots t)
  · show blkRep w R ρ' (ρ' i) (S' i) ((ord.map fun i => renBlk ord s.bkF (s.bkF i)).getD i .dead)
    simp only [List.getD_eq_getElem?_getD, List.getElem?_map]
    show blkRep w R ρ' ((ord[i]?).bind ρ) (match ord[i]? with | some i => S1 i | none => []) _
    cases hi : ord[i]? with
    | none => rfl
    | some k =>
      simp only [Option.map_some, Option.getD_some, Option.bind_some]
      have hb := h.inv.blks k
      show blkRep w R ρ' (ρ k) (match (s.bkF k).isHole with | true => [] | false => S k) _
      cases hbk : s.bkF k with
      | dead => rw [hbk] at hb; exact hb
      | row own e t xs => rw [hbk] at hb; exact hb
      | mp nn own l => rw [hbk] at hb; exact hb
      | hole e t xs ix j u c => rfl
      | cells cs t =>
        rw [hbk] at hb
        obtain ⟨g, vs, h1, h2, h3, h4⟩ := hb
        exact ⟨g, vs, h1, h2, h3, map_at hat h4⟩
  · have hu' : (ord[i]?).bind ρ = some u := hu
    cases hi : ord[i]? with
    | none => rw [hi] at hu'; cases hu'
    | some k => rw [hi] at hu'; exact h.inv.one k u hu'
  · show (match ord[i]? with | some i => S1 i | none => []).Nodup
    cases ord[i]? with
    | none => exact List.nodup_nil
    | some k =>
      show (match (s.bkF k).isHole with | true => [] | false => S k).Nodup
      cases (s.bkF k).isHole
      · exact h.inv.nodup k
      · exact List.nodup_nil
  · have hb1 : b ∈ (match ord[i]? with | some i => S1 i | none => []) := hb
    have hb2 : b ∈ (match ord[j]? with | some i => S1 i | none => []) := hb'
    cases hi : ord[i]? with
    | none => rw [hi] at hb1; simp at hb1
    | some k =>
      cases hj : ord[j]? with
      | none => rw [hj] at hb2; simp at hb2
      | some m =>
        rw [hi] at hb1; rw [hj] at hb2
        exact h.inv.disj k m (fun e => hij (hinj i j k hi (by rw [hj, e]))) b (hsub k b hb1) (hsub m b hb2)
  · have hb1 : b ∈ (match ord[i]? with | some i => S1 i | none => []) := hb
    cases hi : ord[i]? with
    | none => rw [hi] at hb1; simp at hb1
    | some k => rw [hi] at hb1; exact h.inv.offR k b (hsub k b hb1)
  · show (liveSl live (renAV ord s.bkF) s.sl 0).length = n
    rw [liveSl_len]; exact h.len
  · have hi' : ord.length ≤ i := by simpa using hi
    show (ord[i]?).bind ρ = none
    rw [List.getElem?_eq_none hi']; rfl
  · show isAV ρ' ((s.gs.map (renAV ord s.bkF)).getD j .unk) _
    rw [getD_map (f := renAV ord s.bkF) (d := .unk) (by simp [renAV, AV.unk, renAt])]
    exact hav _ _ (h.ghost j)
  · have hb1 : b ∈ (match ord[i]? with | some i => S1 i | none => []) := hb
    cases hi : ord[i]? with
    | none => rw [hi] at hb1; simp at hb1
    | some k => rw [hi] at hb1; exact h.own k b (hsub k b hb1)

def SpIds (ρ ρ' : Rho) (n : Nat) (L : List Nat) : Prop := ∀ k id, L[k]? = some id → ρ' (n + k) = ρ id

theorem SpIds.left {ρ ρ' : Rho} {n : Nat} {A B : List Nat} (h : SpIds ρ ρ' n (A ++ B)) : SpIds ρ ρ' n A := fun k id hk =>
  h k id (by rw [List.getElem?_append_left (List.getElem?_eq_some_iff.1 hk).1]; exact hk)
theorem SpIds.right {ρ ρ' : Rho} {n : Nat} {A B : List Nat} (h : SpIds ρ ρ' n (A ++ B)) : SpIds ρ ρ' (n + A.length) B := fun k id hk => by
  rw [Nat.add_assoc]
  exact h (A.length + k) id (by rw [List.getElem?_append_right (by omega), Nat.add_sub_cancel_left]; exact hk)

theorem spAt_ok {ρ ρ' : Rho} (hx : ρ.ext ρ') {bk : Nat → Blk} {n : Nat} : ∀ {x : At} {v : Value}, SpIds ρ ρ' n (spAt bk n x).2 → isAt ρ x v → isAt ρ' (spAt bk n x).1 v
  | .sl id, v, h, hv => by
    simp only [spAt] at h ⊢
    cases hs : safeRo (bk id) with
    | true =>
      rw [hs] at h
      have := h 0 id rfl
      simp only [Nat.add_zero] at this
      show ρ' n = some v
      rw [this]; exact hv
    | false => exact hx _ _ hv
  | .unk, _, _, hv => hv
  | .sc _, _, _, hv => hv
  | .ptr _ _, _, _, hv => isAt.ext hx hv
  | .eptr _ _ _ _, _, _, hv => isAt.ext hx hv
  | .fn _, _, _, hv => hv
  | .clo _ _, _, _, hv => isAt.ext hx hv

theorem spAts_ok {ρ ρ' : Rho} (hx : ρ.ext ρ') {bk : Nat → Blk} : ∀ {l : List At} {vs : List Value} {n : Nat}, SpIds ρ ρ' n (spAts bk l n).2 → All2 (isAt ρ) l vs → All2 (isAt ρ') (spAts bk l n).1 vs
  | [], [], _, _, _ => trivial
  | _ :: _, _ :: _, _, h, hv => ⟨spAt_ok hx h.left hv.1, spAts_ok hx h.right hv.2⟩
  | [], _ :: _, _, _, hv => hv.elim
  | _ :: _, [], _, _, hv => hv.elim

theorem spAV_ok {ρ ρ' : Rho} (hx : ρ.ext ρ') {bk : Nat → Blk} {n : Nat} : ∀ {x : AV} {v : Value}, SpIds ρ ρ' n (spAV bk n x).2 → isAV ρ x v → isAV ρ' (spAV bk n x).1 v
  | .comp b cs, v, h, hv => by
    rcases hv with ⟨h1, h2⟩ | hv
    · exact .inl ⟨h1, by rw [h2]; rfl⟩
    · cases b
      · obtain ⟨c, h1, h2⟩ := hv
        have h1' : cs = [c] := h1
        subst h1'
        exact .inr ⟨(spAt bk n c).1, rfl, spAt_ok hx (SpIds.left (B := []) h) h2⟩
      · obtain ⟨vs, h1, h2⟩ := hv
        exact .inr ⟨vs, h1, spAts_ok hx h h2⟩
  | .tup _, _, _, hv => isAV.ext hx hv

theorem spSl_ok {ρ ρ' : Rho} (hx : ρ.ext ρ') {bk : Nat → Blk} : ∀ {l : List AV} {n t : Nat} {v : Value}, SpIds ρ ρ' n (spSl bk l n).2 → isAV ρ (l.getD t .unk) v → isAV ρ' ((spSl bk l n).1.getD t .unk) v
  | [], _, _, _, _, hv => isAV.ext hx hv
  | x :: l, n, 0, v, h, hv => spAV_ok hx h.left hv
  | x :: l, n, t + 1, v, h, hv => by
    have := spSl_ok hx (l := l) (t := t) (v := v) h.right (by simpa using hv)
    simpa [spSl] using this

theorem spSl_len (bk : Nat → Blk) : ∀ (l : List AV) (n : Nat), (spSl bk l n).1.length = l.length
  | [], _ => rfl
  | _ :: l, n => by simp [spSl, spSl_len bk l]
theorem spHp_len (bk : Nat → Blk) : ∀ (l : List Blk) (n : Nat), (spHp bk l n).1.length = l.length
  | [], _ => rfl
  | _ :: l, n => by simp [spHp, spHp_len bk l]

theorem spBlk_ok {ρ ρ' : Rho} (hx : ρ.ext ρ') {bk : Nat → Blk} {n : Nat} {o : Option Value} {S : List Nat} {R : Nat → Prop} : ∀ {b : Blk}, SpIds ρ ρ' n (spBlk bk n b).2 → blkRep w R ρ o S b → blkRep w R ρ' o S (spBlk bk n b).1
  | .dead, _, hb => hb
  | .row _ _ _ _, _, hb => hb
  | .mp _ _ _, _, hb => hb
  | .hole _ _ _ _ _ _ _, _, ⟨v, uv, h1, h2, h3⟩ => ⟨v, uv, h1, hx _ _ h2, h3⟩
  | .cells _ _, h, ⟨g, vs, h1, h2, h3, h4⟩ => ⟨g, vs, h1, h2, h3, spAts_ok hx h h4⟩

theorem spHp_ok {ρ ρ' : Rho} (hx : ρ.ext ρ') {bk : Nat → Blk} {o : Option Value} {S : List Nat} {R : Nat → Prop} : ∀ {l : List Blk} {n i : Nat}, SpIds ρ ρ' n (spHp bk l n).2 → blkRep w R ρ o S (l.getD i .dead) → blkRep w R ρ' o S ((spHp bk l n).1.getD i .dead)
  | [], _, _, _, hb => hb
  | x :: l, n, 0, h, hb => spBlk_ok hx h.left hb
  | x :: l, n, i + 1, h, hb => by
    have := spHp_ok hx (l := l) (i := i) h.right (by simpa using hb)
    simpa [spHp] using this

theorem spAt_safe {bk : Nat → Blk} {n : Nat} {x : At} : ∀ id ∈ (spAt bk n x).2, safeRo (bk id) = true := by
  intro id h
  cases x with
  | sl j =>
    simp only [spAt] at h
    cases hs : safeRo (bk j) with
    | true =>
      rw [hs] at h
      simp only [List.mem_singleton] at h
      rw [h]; exact hs
    | false => rw [hs] at h; simp at h
  | _ => simp [spAt] at h
theorem spAts_safe {bk : Nat → Blk} : ∀ {l : List At} {n : Nat}, ∀ id ∈ (spAts bk l n).2, safeRo (bk id) = true
  | [], _, id, h => by simp [spAts] at h
  | _ :: _, _, id, h => by
    simp only [spAts, List.mem_append] at h
    rcases h with h | h
    · exact spAt_safe id h
    · exact spAts_safe id h
theorem spAV_safe {bk : Nat → Blk} {n : Nat} : ∀ {x : AV}, ∀ id ∈ (spAV bk n x).2, safeRo (bk id) = true
  | .comp _ _, id, h => spAts_safe id h
  | .tup _, id, h => by simp [spAV] at h
theorem spSl_safe {bk : Nat → Blk} : ∀ {l : List AV} {n : Nat}, ∀ id ∈ (spSl bk l n).2, safeRo (bk id) = true
  | [], _, id, h => by simp [spSl] at h
  | _ :: _, _, id, h => by
    simp only [spSl, List.mem_append] at h
    rcases h with h | h
    · exact spAV_safe id h
    · exact spSl_safe id h
theorem spBlk_safe {bk : Nat → Blk} {n : Nat} : ∀ {x : Blk}, ∀ id ∈ (spBlk bk n x).2, safeRo (bk id) = true
  | .cells _ _, id, h => spAts_safe id h
  | .dead, id, h => by simp [spBlk] at h
  | .row _ _ _ _, id, h => by simp [spBlk] at h
  | .mp _ _ _, id, h => by simp [spBlk] at h
  | .hole _ _ _ _ _ _ _, id, h => by simp [spBlk] at h
theorem spHp_safe {bk : Nat → Blk} : ∀ {l : List Blk} {n : Nat}, ∀ id ∈ (spHp bk l n).2, safeRo (bk id) = true
  | [], _, id, h => by simp [spHp] at h
  | _ :: _, _, id, h => by
    simp only [spHp, List.mem_append] at h
    rcases h with h | h
    · exact spBlk_safe id h
    · exact spHp_safe id h

theorem spSafe_nil {ρ : Rho} {o : Option Value} {S : List Nat} {R : Nat → Prop} {b : Blk} (hs : safeRo b = true) (h : blkRep w R ρ o S b) : S = [] := by
  cases b with
  | dead => exact h
  | cells cs t => simp [safeRo] at hs
  | mp nn own l => simp [safeRo] at hs
  | hole e t xs ix j u c => simp [safeRo] at hs
  | row own e t xs =>
    cases own with
    | true => simp [safeRo] at hs
    | false =>
      have ht : t.ro = t := by simpa [safeRo] using hs
      obtain ⟨v, _, hr⟩ := h
      exact rep_ro_nil (t := .row false e t) (by simp only [Ty.ro, ht]) hr

theorem spSafe_rho {ρ ρ' : Rho} {o : Option Value} {S : List Nat} {R : Nat → Prop} {b : Blk} (hs : safeRo b = true) (h : blkRep w R ρ o S b) : blkRep w R ρ' o S b := by
  cases b with
  | dead => exact h
  | cells cs t => simp [safeRo] at hs
  | mp nn own l => simp [safeRo] at hs
  | hole e t xs ix j u c => simp [safeRo] at hs
  | row own e t xs => exact h

theorem Good.split {ρ : Rho} {S : Nat → List Nat} {R : Nat → Prop} (h : Good n gh w0 S0 R0 s a w ρ S R) : GoodE n gh w0 S0 R0 s.split a w := by
  have hsp : s.split = ⟨(spSl s.bkF s.sl s.hp.length).1, (spHp s.bkF s.hp (s.hp.length + (spSl s.bkF s.sl s.hp.length).2.length)).1 ++ ((spSl s.bkF s.sl s.hp.length).2 ++ (spHp s.bkF s.hp (s.hp.length + (spSl s.bkF s.sl s.hp.length).2.length)).2).map s.bkF, s.gs⟩ := rfl
  have hsafe : ∀ id ∈ (spSl s.bkF s.sl s.hp.length).2 ++ (spHp s.bkF s.hp (s.hp.length + (spSl s.bkF s.sl s.hp.length).2.length)).2, safeRo (s.bkF id) = true := fun id hid => by
    rcases List.mem_append.1 hid with h1 | h1
    · exact spSl_safe id h1
    · exact spHp_safe id h1
  generalize holds : (spSl s.bkF s.sl s.hp.length).2 ++ (spHp s.bkF s.hp (s.hp.length + (spSl s.bkF s.sl s.hp.length).2.length)).2 = olds at hsp hsafe
  let ρ' : Rho := fun i => if i < s.hp.length then ρ i else (olds[i - s.hp.length]?).bind ρ
  let S' : Nat → List Nat := fun i => if i < s.hp.length then S i else []
  have hext : ρ.ext ρ' := fun i u hu => by
    have hi : i < s.hp.length := by
      rcases Nat.lt_or_ge i s.hp.length with h1 | h1
      · exact h1
      · rw [h.fresh i h1] at hu; cases hu
    show (if i < s.hp.length then ρ i else _) = _
    rw [if_pos hi]; exact hu
  have hids : SpIds ρ ρ' s.hp.length olds := fun k id hk => by
    show (if s.hp.length + k < s.hp.length then _ else (olds[s.hp.length + k - s.hp.length]?).bind ρ) = _
    rw [if_neg (by omega), Nat.add_sub_cancel_left, hk]; rfl
  rw [← holds] at hids
  have hlen := spHp_len s.bkF s.hp (s.hp.length + (spSl s.bkF s.sl s.hp.length).2.length)
  rw [hsp]
  refine ⟨ρ', S', R, ⟨h.inv.size, h.inv.defers, fun t => ?_, fun i => ?_, fun i u hu => ?_, fun i => ?_, fun i j hij b hb hb' => ?_, fun i b hb => ?_, h.inv.Rlt, h.inv.glob⟩, ?_, fun i hi => ?_, fun j => isAV.ext hext (h.ghost j), h.keep, fun i b hb => ?_, h.RR, h.Rn⟩
  · exact spSl_ok hext hids.left (h.inv.slots t)
  · show blkRep w R ρ' (if i < s.hp.length then ρ i else (olds[i - s.hp.length]?).bind ρ) (if i < s.hp.length then S i else []) (List.getD (_ ++ _) i .dead)
    by_cases hi : i < s.hp.length
    · rw [if_pos hi, if_pos hi, List.getD_eq_getElem?_getD, List.getElem?_append_left (by omega), ← List.getD_eq_getElem?_getD]
      exact spHp_ok hext hids.right (h.inv.blks i)
    · rw [if_neg hi, if_neg hi, List.getD_eq_getElem?_getD, List.getElem?_append_right (by omega), hlen, List.getElem?_map]
      cases ho : olds[i - s.hp.length]? with
      | none => rfl
      | some id =>
        simp only [Option.map_some, Option.getD_some, Option.bind_some]
        have hs := hsafe id (List.mem_of_getElem? ho)
        have hb := h.inv.blks id
        have hn := spSafe_nil hs hb
        rw [hn] at hb
        exact spSafe_rho hs hb
  · have hu' : (if i < s.hp.length then ρ i else (olds[i - s.hp.length]?).bind ρ) = some u := hu
    split at hu'
    · exact h.inv.one i u hu'
    · cases ho : olds[i - s.hp.length]? with
      | none => rw [ho] at hu'; cases hu'
      | some id => rw [ho] at hu'; exact h.inv.one id u hu'
  · show (if i < s.hp.length then S i else []).Nodup
    split
    · exact h.inv.nodup i
    · exact List.nodup_nil
  · have hb1 : b ∈ (if i < s.hp.length then S i else []) := hb
    have hb2 : b ∈ (if j < s.hp.length then S j else []) := hb'
    split at hb1
    · split at hb2
      · exact h.inv.disj i j hij b hb1 hb2
      · simp at hb2
    · simp at hb1
  · have hb1 : b ∈ (if i < s.hp.length then S i else []) := hb
    split at hb1
    · exact h.inv.offR i b hb1
    · simp at hb1
  · show (spSl s.bkF s.sl s.hp.length).1.length = n
    rw [spSl_len]; exact h.len
  · have hi' : s.hp.length + olds.length ≤ i := by
      have : ((spHp s.bkF s.hp (s.hp.length + (spSl s.bkF s.sl s.hp.length).2.length)).1 ++ olds.map s.bkF).length ≤ i := hi
      rw [List.length_append, hlen, List.length_map] at this
      exact this
    show (if i < s.hp.length then ρ i else (olds[i - s.hp.length]?).bind ρ) = none
    rw [if_neg (by omega), List.getElem?_eq_none (by omega)]; rfl
  · have hb1 : b ∈ (if i < s.hp.length then S i else []) := hb
    split at hb1
    · exact h.own i b hb1
    · simp at hb1

theorem Good.head_of {ρ : Rho} {S : Nat → List Nat} {R : Nat → Prop} (h : Good n gh w0 S0 R0 s a w ρ S R) (live : List Nat) : GoodE n gh w0 S0 R0 (s.head live) a w := by
  unfold St.head
  split
  · obtain ⟨_, _, _, h1⟩ := h.ren live
    obtain ⟨_, _, _, h2⟩ := h1.split
    exact h2.ren live
  · exact h.ren live

theorem GoodE.head (h : GoodE n gh w0 S0 R0 s a w) (live : List Nat) : GoodE n gh w0 S0 R0 (mkSt (s.head live).sh (s.head live).leaf) a w := by
  obtain ⟨ρ, S, R, h⟩ := h
  obtain ⟨ρ', S', R', h'⟩ := h.head_of live
  rw [mk_leaf]
  exact ⟨_, _, _, h'.forget⟩

end Go.Eng
