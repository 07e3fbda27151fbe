/- The engine, part 26 (between parts 10 and 11): maps of numbers to numbers, function literals that have taken in variables, rows put back into their elements behind a call. Conditions as in part 5. -/
import Derived.Test.YtjkaapoklbhokaaDoorEng10
import Derived.MapKept
set_option linter.all false
namespace Go.Eng
open Go.RowKit

variable {P : Program} {ti : Nat → Option TI}
variable {n : Nat} {w w' : World} {R R' : Nat → Prop} {sl : Nat → AV} {bk : Nat → Blk} {ρ ρ' : Rho} {S S' : Nat → List Nat} {a : Act} {e : Eff} {v : Value} {o : Oper} {nx : Nat}

theorem shape_map {d : TypeDesc} {k e : TypeId} (h : shapeD P d = .map k e) : d = .map k e := by
  cases d <;> simp [shapeD] at h
  rw [h.1, h.2]

theorem shape_array {d : TypeDesc} {m : Nat} {e : TypeId} (h : shapeD P d = .array m e) : d = .array m e := by
  cases d <;> simp [shapeD] at h
  rw [h.1, h.2]

theorem fill_mono {p q : Nat → Option (Nat × Nat)} (hpq : ∀ i x, p i = some x → q i = some x) : ∀ (l : List (Nat × Value)) (c c' : Array Value), Instr.fill p c l = some c' → Instr.fill q c l = some c'
  | [], _, _, h => h
  | (i, v) :: l, c, c', h => by
    unfold Instr.fill at h ⊢
    cases hp : p i with
    | none => simp [hp] at h
    | some x =>
      rw [hpq i x hp]
      simp only [hp] at h ⊢
      split at h
      · cases h
      · rename_i hc
        rw [if_neg hc]
        exact fill_mono hpq l _ _ h

theorem sound_buildArray {T : TypeId} {parts : Array (Nat × Operand)} {ty : Ty} {m bytes : Nat} {e : TypeId} {i : TI} {cs : List At} (ho : o.op = .build T parts) (hT : TIok P T ⟨ty, .array m e, bytes⟩) (he : TIok P e i)
    (hf : fillA ((List.range m).map fun q => (q * i.ty.size, i.ty.size)) sl parts.toList ((zeroCs ty).map .sc) = some cs) : OpSound P o sl bk nx ⟨.comp true cs, []⟩ :=
  sound_pure fun n w R ρ S a h => by
    obtain ⟨d, hd, hsh⟩ := hT.under
    have := shape_array hsh
    subst this
    obtain ⟨z, hz, hzc⟩ := hT.zeros w
    obtain ⟨cells', h1, h2⟩ := fillA_sound h (cells := z.cells) hf (by rw [hzc]; exact zero_at (zeroCs_one ty))
    have h3 : Instr.fill (fun q => some (q * i.ty.size, i.ty.size)) z.cells (parts.toList.map fun p => (p.1, a.eval p.2)) = some cells' := by
      refine fill_mono (fun k x hk => ?_) _ _ _ h1
      by_cases hkm : k < m
      · simpa [hkm] using hk
      · simp [hkm] at hk
    refine ⟨.agg cells', ?_, .inr ⟨cells'.toList, by simp, h2⟩⟩
    have e1 : (Array.map (fun x => (x.1, a.eval x.2)) parts).toList = parts.toList.map fun p => (p.1, a.eval p.2) := by simp
    simp only [execOp, ho, Instr.build, Sem.run_bind, hz, Result.andThen_ok, run_underlying hd, run_size he, e1, h3]
    simp

theorem sound_indexArr {T : TypeId} {x ix : Operand} {ty : Ty} {m bytes id off : Nat} {e : TypeId} {j : TI} {k : IntKind} {q : Int} (ho : o.op = .indexAddr T x ix) (hT : TIok P T ⟨ty, .array m e, bytes⟩) (he : TIok P e j)
    (hx : evalA sl x = .comp false [.ptr id off]) (hix : evalA sl ix = .comp false [.sc (.int k q)]) (hq : 0 ≤ q ∧ q < (m : Int)) : OpSound P o sl bk nx ⟨one (.ptr id (off + q.toNat * j.ty.size)), []⟩ :=
  sound_pure fun n w R ρ S a h => by
    obtain ⟨d, hd, hsh⟩ := hT.under
    have := shape_array hsh
    subst this
    obtain ⟨g, h1, h2⟩ := ev_at h hx (by simp)
    refine ⟨.pointer (some ⟨g, off + q.toNat * j.ty.size, none⟩), ?_, isAV_of ⟨g, h1, rfl⟩⟩
    simp [execOp, ho, Instr.indexAt, asIntOf, ev_sc h hix, h2, Instr.sureAddr, run_underlying hd, run_size he, hq.1, hq.2, Addr.add_lit]

theorem capsA_sound : ∀ {avs : List AV} {l : List (Nat × Nat)} {vs : List Value}, capsA avs = some l → All2 (isAV ρ) avs vs →
    All2 (fun p u => ∃ g, ρ p.1 = some (.pointer (some ⟨g, 0, none⟩)) ∧ u = .pointer (some ⟨g, p.2, none⟩)) l vs
  | [], l, [], h, _ => by
    simp only [capsA, Option.some.injEq] at h
    subst h
    trivial
  | x :: avs, l, v :: vs, h, hv => by
    unfold capsA at h
    split at h
    · rename_i heq; cases heq
    · rename_i id off r heq
      simp only [List.cons.injEq] at heq
      obtain ⟨rfl, rfl⟩ := heq
      split at h
      · rename_i l' hl'
        simp only [Option.some.injEq] at h
        subst h
        obtain ⟨g, h1, h2⟩ := isAV_one (by simp) hv.1
        exact ⟨⟨g, h1, h2⟩, capsA_sound hl' hv.2⟩
      · cases h
    · cases h
  | [], _, _ :: _, _, hv => hv.elim
  | _ :: _, _, [], _, hv => hv.elim

theorem evs_sound (h : Inv n w R sl bk ρ S a) : ∀ (l : List Operand), All2 (isAV ρ) (l.map (evalA sl)) (l.map a.eval)
  | [] => trivial
  | y :: l => ⟨evalA_sound h y, evs_sound h l⟩

theorem sound_makeFunc {f : FuncId} {first captured : Array Operand} {l : List (Nat × Nat)} (ho : o.op = .makeFunc (.func f) first captured) (h1 : first.toList = []) (h2 : capsA (captured.toList.map (evalA sl)) = some l) :
    OpSound P o sl bk nx ⟨one (.clo f l), []⟩ :=
  sound_pure fun n w R ρ S a h => by
    have hf : first = #[] := by rw [← Array.toArray_toList (xs := first), h1]
    refine ⟨.func (.func f) #[] (captured.map a.eval), by simp [execOp, ho, Instr.makeFunc, hf], isAV_of ⟨captured.toList.map a.eval, ?_, capsA_sound h2 (evs_sound h _)⟩⟩
    congr 1
    apply Array.toList_inj.1
    simp

theorem sound_makeMap {T : TypeId} (ho : o.op = .makeMap T none) : OpSound P o sl bk nx ⟨one (.sl nx), [(nx, .mp true true [])]⟩ := by
  intro n w R ρ S a next Q h hf hk
  have hids : ∀ k, k ∈ (Eff.ids ⟨one (.sl nx), [(nx, .mp true true [])]⟩) ↔ k = nx := by intro k; simp [Eff.ids]
  have hnew : ∀ k ∈ [nx], ρ k = none := fun k hk' => by
    rw [List.mem_singleton] at hk'; subst hk'
    exact hf k ((hids k).2 rfl) (Nat.le_refl _)
  have hrun : (execOp a.eval o).run P w = .ok (.value (.map (some w.heap.size))) (w.alloc (.map #[] 0)) := by
    simp [execOp, ho, Instr.makeMap]
  unfold Oper.wp
  rw [hrun]
  obtain ⟨ρ', S', hp⟩ := Post.of (e := ⟨one (.sl nx), [(nx, .mp true true [])]⟩) (w' := w.alloc (.map #[] 0)) (R' := R) (v := .map (some w.heap.size)) h (new := [nx]) (vals := fun _ => .map (some w.heap.size)) (Sx := fun _ => [w.heap.size])
    (fun k hk' => by rw [List.mem_singleton] at hk'; exact (hids k).2 hk') hnew (fun _ _ => rfl) (Keeps.alloc _ _ _)
    (fun k hk' => by
      rw [(hids k).1 hk']
      simp only [updBk, ↓reduceIte]
      exact ⟨_, Rho.add_mem (by simp), .inr ⟨w.heap.size, rfl, ⟨#[], 0, (MapKept.heap_alloc w _).1, [], rfl, fun _ => rfl⟩, rfl⟩, fun _ => ⟨_, rfl⟩⟩)
    (fun k hk' b hbm => by
      rw [List.mem_singleton] at hbm
      exact .inr (by omega))
    (by simp [Eff.ids]) (fun _ hb => hb) (fun _ hb => .inl hb) (fun b hb => Nat.lt_of_lt_of_le (h.Rlt b hb) (by simp))
    (fun k hk' b hbm hR => by
      rw [List.mem_singleton] at hbm
      have := h.Rlt b hR; omega)
    (isAV_of (Rho.add_mem (by simp)))
  exact hk _ _ _ _ _ hp

/-- The entry of a key, found. -/
theorem find_map (a b : Int) : ∀ {es : List MapEntry} {l : List (Int × Int)} (i : Nat), es.map (fun e => (e.key, e.val)) = l.map (fun p => (Value.int .i64 p.1, Value.int .i64 p.2)) →
    (∃ j e, Instr.findNow (.int .i64) (.int .i64 a) es i = some (some (i + j, .int .i64 (mgetR l a))) ∧ es[j]? = some e ∧ e.key = .int .i64 a ∧
      ∀ f : MapEntry → MapEntry, (∀ x, (f x).key = .int .i64 a ∧ (f x).val = .int .i64 b) → (es.modify j f).map (fun e => (e.key, e.val)) = (mputA l a b).map (fun p => (Value.int .i64 p.1, Value.int .i64 p.2))) ∨
    (Instr.findNow (.int .i64) (.int .i64 a) es i = some none ∧ mgetR l a = 0 ∧ mputA l a b = l ++ [(a, b)])
  | [], [], i, _ => .inr ⟨rfl, rfl, rfl⟩
  | [], _ :: _, _, h => by simp at h
  | _ :: _, [], _, h => by simp at h
  | x :: es, p :: l, i, h => by
    simp only [List.map_cons, List.cons.injEq, Prod.mk.injEq] at h
    obtain ⟨⟨hk, hv⟩, h⟩ := h
    have hs : Instr.sameNow (.int .i64) (.int .i64 a) x.key = some (a == p.1) := by rw [hk]; simp [Instr.sameNow]
    by_cases hap : p.1 = a
    · refine .inl ⟨0, x, ?_, rfl, by rw [hk, hap], fun f hf => ?_⟩
      · have : (a == p.1) = true := by simp [hap]
        rw [this] at hs
        simp [Instr.findNow, hs, mgetR, hap, hv]
      · simp only [List.modify_zero_cons, List.map_cons, mputA, if_pos hap, (hf x).1, (hf x).2, h]
    · have hne : (a == p.1) = false := by simp [Ne.symm hap]
      rw [hne] at hs
      rcases find_map a b (i + 1) h with ⟨j, e, h1, h2, h3, h4⟩ | ⟨h1, h2, h3⟩
      · refine .inl ⟨j + 1, e, ?_, by simpa using h2, h3, fun f hf => ?_⟩
        · simp only [Instr.findNow, hs, h1, mgetR, if_neg hap]
          rw [show i + 1 + j = i + (j + 1) by omega]
        · simp only [List.modify_succ_cons, List.map_cons, mputA, if_neg hap, h4 f hf, hk, hv]
      · refine .inr ⟨?_, ?_, ?_⟩
        · simp only [Instr.findNow, hs, h1]
        · simp only [mgetR, if_neg hap, h2]
        · simp only [mputA, if_neg hap, h3, List.cons_append]

theorem mget_mputA (l : List (Int × Int)) (a b k : Int) : mgetR (mputA l a b) k = if a = k then b else mgetR l k := by
  induction l with
  | nil => simp [mputA, mgetR]
  | cons p r ih =>
    unfold mputA
    by_cases h : p.1 = a
    · rw [if_pos h]
      unfold mgetR
      by_cases h2 : a = k
      · rw [if_pos h2, if_pos h2]
      · rw [if_neg h2, if_neg h2, if_neg (by omega)]
    · rw [if_neg h]
      unfold mgetR
      by_cases h2 : p.1 = k
      · rw [if_pos h2, if_pos h2, if_neg (by omega)]
      · rw [if_neg h2, if_neg h2]; exact ih
theorem mget_mputR (l : List (Int × Int)) (a b k : Int) : mgetR (mputR l a b) k = if a = k then b else mgetR l k := by
  induction l with
  | nil => simp [mputR, mgetR]
  | cons p r ih =>
    unfold mputR
    by_cases h0 : a < p.1
    · rw [if_pos h0]
      conv => lhs; unfold mgetR
    · rw [if_neg h0]
      by_cases h : p.1 = a
      · rw [if_pos h]
        unfold mgetR
        by_cases h2 : a = k
        · rw [if_pos h2, if_pos h2]
        · rw [if_neg h2, if_neg h2, if_neg (by omega)]
      · rw [if_neg h]
        unfold mgetR
        by_cases h2 : p.1 = k
        · rw [if_pos h2, if_pos h2, if_neg (by omega)]
        · rw [if_neg h2, if_neg h2]; exact ih

theorem mput_comm {a c : Int} (h : a ≠ c) (b d : Int) : ∀ l : List (Int × Int), mputR (mputR l a b) c d = mputR (mputR l c d) a b
  | [] => by
    simp only [mputR]
    by_cases h1 : a < c
    · have h2 : ¬ c < a := by omega
      have h3 : ¬ c = a := by omega
      simp [h1, h2, h, h3]
    · have h2 : c < a := by omega
      have h3 : ¬ c = a := by omega
      simp [h1, h2, h, h3]
  | p :: r => by
    have ih := mput_comm h b d r
    obtain ⟨x, y⟩ := p
    rcases Int.lt_trichotomy a x with h1 | h1 | h1
    · rcases Int.lt_trichotomy c x with h2 | h2 | h2
      · rcases Int.lt_trichotomy a c with h3 | h3 | h3
        · simp [mputR, h1, h2, h3, show ¬ c < a by omega, show ¬ a = c by omega, show ¬ c = a by omega]
        · exact absurd h3 h
        · simp [mputR, h1, h2, h3, show ¬ a < c by omega, show ¬ a = c by omega, show ¬ c = a by omega]
      · subst h2
        simp [mputR, h1, show ¬ c < a by omega, show ¬ a = c by omega]
      · simp [mputR, h1, show ¬ c < a by omega, show ¬ a = c by omega, show ¬ c < x by omega, show ¬ x = c by omega, show ¬ c = a by omega]
    · subst h1
      rcases Int.lt_trichotomy c a with h2 | h2 | h2
      · simp [mputR, h2, show ¬ a < c by omega, show ¬ c = a by omega]
      · exact absurd h2.symm h
      · simp [mputR, show ¬ c < a by omega, show ¬ a = c by omega]
    · rcases Int.lt_trichotomy c x with h2 | h2 | h2
      · simp [mputR, h2, show ¬ a < c by omega, show ¬ c = a by omega, show ¬ a < x by omega, show ¬ x = a by omega]
      · subst h2
        simp [mputR, show ¬ a < c by omega, show ¬ c = a by omega]
      · simp [mputR, show ¬ a < x by omega, show ¬ x = a by omega, show ¬ c < x by omega, show ¬ x = c by omega, ih]

theorem run_put {T K E : TypeId} (hT : P.underlying T = some (.map K E)) (hK : P.underlying K = some (.int .i64)) {l : List (Int × Int)} {g : Nat} (hm : mapRep w l g) (x y : Int) :
    ∃ es clock, (Instr.mapUpdate T (.map (some g)) (.int .i64 x) (.int .i64 y)).run P w = .ok () { w with heap := w.heap.setIfInBounds g (.map es clock) } ∧ ∃ l0 : List (Int × Int), es.toList.map (fun e => (e.key, e.val)) = l0.map (fun p => (Value.int .i64 p.1, Value.int .i64 p.2)) ∧ ∀ k, mgetR l0 k = mgetR (mputR l x y) k := by
  obtain ⟨es, clock, hg, l0, hl, hx⟩ := hm
  have hxx : ∀ k, mgetR (mputA l0 x y) k = mgetR (mputR l x y) k := fun k => by rw [mget_mputA, mget_mputR, hx k]
  have hik : MapKept.IsKey (.int .i64) (.int .i64 x) := rfl
  rcases find_map x y 0 hl with ⟨j, e0, h1, h2, h3, h4⟩ | ⟨h1, h2, h3⟩
  · have hj : es[j]? = some e0 := by simpa using h2
    refine ⟨es.modify j (fun e' => { e' with key := .int .i64 x, val := .int .i64 y }), clock, ?_, ?_⟩
    · rw [Nat.zero_add] at h1
      simp [Instr.mapUpdate, run_underlying hT, MapKept.run_getObj_map hg, MapKept.run_checkKey hK hik, MapKept.run_findKey hK h1, hj, h3, MapKept.run_keyThatStays hik, MapKept.run_setObj_map _ hg, Result.andThen]
    · refine ⟨mputA l0 x y, ?_, hxx⟩
      rw [Array.toList_modify]
      exact h4 _ fun _ => ⟨rfl, rfl⟩
  · refine ⟨es.push ⟨.int .i64 x, .int .i64 y, clock⟩, clock + 1, ?_, ?_⟩
    · simp [Instr.mapUpdate, run_underlying hT, MapKept.run_getObj_map hg, MapKept.run_checkKey hK hik, MapKept.run_findKey hK h1, MapKept.run_setObj_map _ hg, Result.andThen]
    · refine ⟨mputA l0 x y, ?_, hxx⟩
      rw [Array.toList_push, List.map_append, hl, h3, List.map_append]
      rfl

theorem sound_put {T m x y : TypeId} {M X Y : Operand} {ty tk : Ty} {K E : TypeId} {b1 b2 : Nat} {id : Nat} {p q : Int} {l : List (Int × Int)} (ho : o.op = .mapUpdate T M X Y ∨ o.op = .insert T M X Y) (hT : TIok P T ⟨ty, .map K E, b1⟩) (hK : TIok P K ⟨tk, .int .i64, b2⟩)
    (hm : evalA sl M = .comp false [.sl id]) (hx : evalA sl X = .comp false [.sc (.int .i64 p)]) (hy : evalA sl Y = .comp false [.sc (.int .i64 q)]) (hb : bk id = .mp true true l) :
    OpSound P o sl bk nx ⟨.tup [], [(id, .mp true true (mputR l p q))]⟩ := by
  intro n w R ρ S a next Q h hf hk
  obtain ⟨d, hd, hsh⟩ := hT.under
  have := shape_map hsh
  subst this
  obtain ⟨d, hdk, hsh⟩ := hK.under
  have := shape_int hsh
  subst this
  have h1 : ρ id = some (a.eval M) := ev_at h hm (by simp)
  have hb' := h.blks id
  rw [hb] at hb'
  obtain ⟨u, h2, h3, h4⟩ := hb'
  rw [h1, Option.some.injEq] at h2
  obtain ⟨g, rfl⟩ := h4 rfl
  rcases h3 with ⟨h3, _⟩ | ⟨g', h3, hrep, hS⟩
  · simp at h3
  simp only [List.cons.injEq, Value.map.injEq, Option.some.injEq, and_true] at h3
  subst h3
  have hS' : S id = [g] := hS
  obtain ⟨es, clock, hrun, hl⟩ := run_put hd hdk hrep p q
  have hrun' : (execOp a.eval o).run P w = .ok .skip { w with heap := w.heap.setIfInBounds g (.map es clock) } := by
    rcases ho with ho | ho <;> simp [execOp, ho, h2, ev_sc h hx, ev_sc h hy, hrun, Result.andThen]
  unfold Oper.wp
  rw [hrun']
  obtain ⟨es0, clock0, hg0, _⟩ := hrep
  have hset := MapKept.heap_set (w := w) (o' := .map es clock) hg0
  have hids : ∀ k, k ∈ (Eff.ids ⟨.tup [], [(id, .mp true true (mputR l p q))]⟩) ↔ k = id := by intro k; simp [Eff.ids]
  obtain ⟨ρ', S', hp⟩ := Post.of (e := ⟨.tup [], [(id, .mp true true (mputR l p q))]⟩) (w' := { w with heap := w.heap.setIfInBounds g (.map es clock) }) (R' := R) (v := undef) h (new := []) (vals := fun _ => undef) (Sx := fun _ => [g])
    (fun k hk' => by simp at hk') (fun k hk' => by simp at hk') (fun k hk' => by simp at hk')
    ⟨rfl, rfl, rfl, by simp, fun k hk' hn => hset.2 k (fun e' => hn ⟨id, (hids id).2 rfl, by rw [hS', e']; simp⟩)⟩
    (fun k hk' => by
      have hadd : ρ.add [] (fun _ => undef) = ρ := by funext q; simp [Rho.add]
      rw [hadd, (hids k).1 hk']
      simp only [updBk, ↓reduceIte]
      exact ⟨_, h1.trans (by rw [h2]), .inr ⟨g, rfl, ⟨es, clock, hset.1, hl⟩, rfl⟩, fun _ => ⟨_, rfl⟩⟩)
    (fun k hk' b hbm => .inl ⟨id, (hids id).2 rfl, by rw [hS']; exact hbm⟩)
    (by simp [Eff.ids]) (fun _ hb => hb) (fun _ hb => .inl hb) (fun b hb => by simpa using h.Rlt b hb)
    (fun k hk' b hbm hR => h.offR id b (by rw [hS']; exact hbm) hR)
    undef_tup
  exact hk _ _ _ _ _ hp

theorem sound_lookup {T : TypeId} {M X : Operand} {ty tk te : Ty} {K E : TypeId} {b1 b2 b3 : Nat} {u : At} {p q : Int} (ho : o.op = .lookup T M X false) (hT : TIok P T ⟨ty, .map K E, b1⟩) (hK : TIok P K ⟨tk, .int .i64, b2⟩) (hE : TIok P E ⟨te, .int .i64, b3⟩)
    (hu : u ≠ .unk) (hm : evalA sl M = .comp false [u]) (hx : evalA sl X = .comp false [.sc (.int .i64 p)])
    (hq : ∀ (n : Nat) (w : World) (R : Nat → Prop) (ρ : Rho) (S : Nat → List Nat) (a : Act) (v : Value), Inv n w R sl bk ρ S a → isAt ρ u v → (v = .map none ∧ q = 0) ∨ ∃ g l, v = .map (some g) ∧ mapRep w l g ∧ q = mgetR l p) :
    OpSound P o sl bk nx ⟨scI .i64 q, []⟩ :=
  sound_pure fun n w R ρ S a h => by
    obtain ⟨d, hd, hsh⟩ := hT.under
    have := shape_map hsh
    subst this
    obtain ⟨d, hdk, hsh⟩ := hK.under
    have := shape_int hsh
    subst this
    have hz := hE.zint
    simp only at hz
    cases hi : P.info? E with
    | none => simp [hi] at hz
    | some i =>
    simp only [hi, Option.bind_some] at hz
    have hik : MapKept.IsKey (.int .i64) (.int .i64 p) := rfl
    have hzr : (zeroValue E).run P w = .ok (.int .i64 0) w := by simp [zeroValue, typeInfo, hi, hz]
    refine ⟨.int .i64 q, ?_, isAV_of ⟨rfl, rfl⟩⟩
    rcases hq n w R ρ S a _ h (ev_at h hm hu) with ⟨h1, h2⟩ | ⟨g, l, h1, ⟨es, clock, hg, l0, hl, hxt⟩, h2⟩
    · subst h2
      have hf : Instr.findNow (.int .i64) (.int .i64 p) ([] : List MapEntry) 0 = some none := rfl
      simp [execOp, ho, h1, ev_sc h hx, Instr.lookup, run_underlying hd, MapKept.run_checkKey hdk hik, MapKept.run_findKey hdk hf, hzr, Result.andThen]
    · rw [← hxt p] at h2
      rcases find_map p 0 0 hl with ⟨j, e0, f1, _⟩ | ⟨f1, f2, _⟩
      · simp [execOp, ho, h1, ev_sc h hx, Instr.lookup, run_underlying hd, MapKept.run_getObj_map hg, MapKept.run_checkKey hdk hik, MapKept.run_findKey hdk f1, Result.andThen, h2]
      · simp [execOp, ho, h1, ev_sc h hx, Instr.lookup, run_underlying hd, MapKept.run_getObj_map hg, MapKept.run_checkKey hdk hik, MapKept.run_findKey hdk f1, hzr, Result.andThen, h2, f2]

theorem lookup_sl {id : Nat} {nn own : Bool} {l : List (Int × Int)} {p : Int} (hb : bk id = .mp nn own l) (n : Nat) (w : World) (R : Nat → Prop) (ρ : Rho) (S : Nat → List Nat) (a : Act) (v : Value) (h : Inv n w R sl bk ρ S a) (hv : isAt ρ (.sl id) v) :
    (v = .map none ∧ mgetR l p = 0) ∨ ∃ g l', v = .map (some g) ∧ mapRep w l' g ∧ mgetR l p = mgetR l' p := by
  have hb' := h.blks id
  rw [hb] at hb'
  obtain ⟨u, h2, h3, _⟩ := hb'
  have hv' : ρ id = some v := hv
  rw [hv', Option.some.injEq] at h2
  subst h2
  rcases h3 with ⟨h3, h4, _⟩ | ⟨g, h3, h4, _⟩
  · simp only [List.cons.injEq, and_true] at h3
    exact .inl ⟨h3, by rw [h4]; rfl⟩
  · simp only [List.cons.injEq, and_true] at h3
    exact .inr ⟨g, l, h3, h4, rfl⟩

end Go.Eng
