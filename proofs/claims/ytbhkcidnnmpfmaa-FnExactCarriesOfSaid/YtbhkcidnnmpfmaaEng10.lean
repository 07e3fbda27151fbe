/- The engine, part 10: make and append. Conditions as in part 5. -/
import Derived.Test.YtbhkcidnnmpfmaaEng9
set_option linter.all false
namespace Go.Eng
open Go.RowKit

variable {P : Program} {ti : Nat → Option TI}
variable {n : Nat} {w w' : World} {R R' : Nat → Prop} {sl : Nat → AV} {bk : Nat → Blk} {ρ ρ' : Rho} {S S' : Nat → List Nat} {a : Act} {e : Eff} {v : Value} {o : Oper} {nx : Nat}

theorem made_succ (z : Array Value) (hz : 0 < z.size) (m : Nat) : (madeCells z ((m + 1) * z.size)).toList = (madeCells z (m * z.size)).toList ++ z.toList := by
  apply List.ext_getElem?
  intro j
  have h1 : (m + 1) * z.size = m * z.size + z.size := by rw [Nat.add_mul, Nat.one_mul]
  rcases Nat.lt_or_ge j (m * z.size) with hj | hj
  · rw [List.getElem?_append_left (by simpa [madeCells] using hj)]
    have hj' : j < (m + 1) * z.size := by omega
    simp [madeCells, hj, hj']
  · rw [List.getElem?_append_right (by simpa [madeCells] using hj)]
    simp only [madeCells, Array.toList_map, Array.toList_range, List.getElem?_map, List.length_map, List.length_range, Array.getElem?_toList]
    rcases Nat.lt_or_ge j ((m + 1) * z.size) with hj' | hj'
    · rw [List.getElem?_range hj']
      have hk : j % z.size = j - m * z.size := by
        have : j = (j - m * z.size) + m * z.size := by omega
        rw [this, Nat.add_mul_mod_self_right, Nat.mod_eq_of_lt (by omega)]
        omega
      have hlt : j - m * z.size < z.size := by omega
      simp [hk, hlt]
    · rw [List.getElem?_eq_none (by simpa using hj')]
      simp only [Option.map_none]
      rw [Array.getElem?_eq_none (by omega)]

theorem elems_made {t : Ty} : ∀ m : Nat, elemsR (rep w R t) (List.replicate m t.dflt) (madeCells (zeroCs t).toArray (m * t.size)).toList []
  | 0 => by simp [madeCells, elemsR, Array.range_zero']
  | m + 1 => by
    have hl : (zeroCs t).toArray.size = t.size := by rw [List.size_toArray]; exact rep_len (w := w) (R := R) (rep_zero t)
    have := made_succ (zeroCs t).toArray (by rw [hl]; exact t.size_pos) m
    rw [hl] at this
    rw [this, List.replicate_succ']
    exact elemsR_app.2 ⟨_, _, [], [], rfl, rfl, elems_made m, elemsR_one.2 (rep_zero t)⟩

theorem sound_make {T : TypeId} {l c : Operand} {ty : Ty} {bytes : Nat} {e : TypeId} {i : TI} {m : Int} (ho : o.op = .makeSlice T l c) (hT : TIok P T ⟨ty, .slice e, bytes⟩) (he : TIok P e i)
    (hl : evalA sl l = .comp false [.sc (.int .i64 m)]) (hc : evalA sl c = .comp false [.sc (.int .i64 m)]) (hm : 0 ≤ m ∧ m ≤ 9223372036854775807 ∧ (i.bytes : Int) * m ≤ 281474976710656) :
    OpSound P o sl bk nx ⟨one (.sl nx), [(nx, .row true e i.ty (List.replicate m.toNat i.ty.dflt))]⟩ := by
  refine sound_newRow (own := []) (by simp) fun n w R ρ S a h => ?_
  obtain ⟨d, hd, hsh⟩ := hT.under
  have := shape_slice hsh
  subst this
  obtain ⟨j, hj, hjs, hjb⟩ := he.size
  have hz := he.zero
  simp only [hj, Option.bind_some] at hz
  cases hzz : j.zero with
  | none => simp [hzz] at hz
  | some z =>
    simp only [hzz, Option.map_some, Option.some.injEq] at hz
    have hr := run_make (P := P) w T e j z hd hj hzz .i64 .i64 m m hm.1 (Int.le_refl _) (by rw [hjb]; exact hm.2.2) hm.2.1
    rw [hjs, hz] at hr
    have hrun : (execOp a.eval o).run P w = .ok (.value (.slice (some ⟨w.heap.size, 0, none⟩) m.toNat m.toNat)) (w.alloc (.cells (madeCells (zeroCs i.ty).toArray (m.toNat * i.ty.size)) e)) := by
      simp [execOp, ho, ev_sc h hl, ev_sc h hc, hr]
    refine ⟨_, _, hrun, rfl, Keeps.alloc _ _ _, [w.heap.size], ⟨_, _, [], rfl, elems_made m.toNat, ?_, rfl⟩, by simp, fun b hb => .inr (by simp at hb; omega)⟩
    rw [List.length_replicate]
    have h63 : m.toNat ≤ maxLen := by unfold maxLen; omega
    exact World.ownsRow_lit w _ m.toNat (Nat.zero_le _) h63 (size_madeCells _ _)

theorem rep_one : ∀ {t : Ty} {x : t.den} {cs : List Value} {T : List Nat}, rep w R t x cs T → ∀ u ∈ cs, u.oneCell' = true
  | .int _, _, _, _, h, u, hu => by rw [h.1, List.mem_singleton] at hu; rw [hu]; rfl
  | .bool, _, _, _, h, u, hu => by rw [h.1, List.mem_singleton] at hu; rw [hu]; rfl
  | .str, _, _, _, h, u, hu => by rw [h.1, List.mem_singleton] at hu; rw [hu]; rfl
  | .pair a b, x, cs, T, ⟨c1, c2, S1, S2, h1, _, h3, h4⟩, u, hu => by
    rw [h1, List.mem_append] at hu
    rcases hu with hu | hu
    · exact rep_one h3 u hu
    · exact rep_one h4 u hu
  | .row own e t, xs, cs, T, h, u, hu => by
    obtain ⟨v, flat, Se, h1, h2, h3⟩ := h
    rw [h1, List.mem_singleton] at hu
    subst hu
    cases own
    · obtain ⟨⟨A, c, rfl, _⟩, _⟩ := h3; rfl
    · rcases h3.1.2 with ⟨rfl, _⟩ | ⟨g, cap, cur, rfl, _⟩ <;> rfl

theorem flat_one {t : Ty} : ∀ {xs : List t.den} {flat : List Value} {T : List Nat}, elemsR (rep w R t) xs flat T → ∀ u ∈ flat, u.oneCell' = true
  | [], flat, T, h, u, hu => by rw [h.1] at hu; simp at hu
  | x :: xs, flat, T, ⟨c1, c2, S1, S2, h1, _, h3, h4⟩, u, hu => by
    rw [h1, List.mem_append] at hu
    rcases hu with hu | hu
    · exact rep_one h3 u hu
    · exact flat_one h4 u hu

theorem run_append_nilSrc {t ty e : TypeId} {i : TypeInfo} (ht : P.underlying t = some (.slice e)) (hi : P.info? e = some i) {base size n : Nat} {v : Value} {xs : List Value} (hown : w.ownsRow base e size v n xs) (c : Nat) :
    (Builtin.append_ #[t, t] ty #[v, .slice none 0 c]).run P w = .ok v w := by
  rcases hown.2 with ⟨rfl, rfl⟩ | ⟨g, cap, cur, rfl, _, _, hnc, _⟩
  · simp [Builtin.append_, run_underlying ht, sizeOf, typeInfo, hi, Builtin.lenOf, Builtin.firstCells]
  · simp [Builtin.append_, run_underlying ht, sizeOf, typeInfo, hi, Builtin.lenOf, Builtin.firstCells, hnc, storeCells]

/-- The row that is appended to, and the one that is copied, read. -/
theorem asRow_sound (h : Inv n w R sl bk ρ S a) {e : TypeId} {t : Ty} {sa : At} {u : Value} {xs : List t.den} {own : List Nat} (hs : asRow bk e t sa = some (xs, own)) (hu : isAt ρ sa u) :
    ∃ flat Se, elemsR (rep w R t) xs flat Se ∧ w.ownsRow 0 e t.size u (List.length (α := t.den) xs) flat ∧ own.flatMap S = u.ownBlock.toList ++ Se := by
  unfold asRow at hs
  split at hs
  · rename_i id
    split at hs
    · rename_i he
      split at hs
      · rename_i ys hys
        simp only [Option.some.injEq, Prod.mk.injEq] at hs
        obtain ⟨rfl, rfl⟩ := hs
        obtain ⟨e', hbk⟩ := rowCast_own hys
        rw [hbk] at he
        simp only [elemOf, Option.some.injEq] at he
        subst he
        have hb := h.blks id
        rw [hbk] at hb
        obtain ⟨v', h1, v'', flat, Se, h2, h3, h4, h5⟩ := hb
        simp only [List.cons.injEq, and_true] at h2
        subst h2
        have hu' : ρ id = some u := hu
        rw [hu', Option.some.injEq] at h1
        subst h1
        exact ⟨flat, Se, h3, h4, by simpa using h5⟩
      · cases hs
    · cases hs
  · simp only [Option.some.injEq, Prod.mk.injEq] at hs
    obtain ⟨rfl, rfl⟩ := hs
    obtain ⟨rfl, _⟩ := hu
    exact ⟨[], [], ⟨rfl, rfl⟩, World.ownsRow_nil w 0 e t.size, rfl⟩
  · cases hs

theorem asSrc_sound (h : Inv n w R sl bk ρ S a) {t : Ty} {sa : At} {u : Value} {xs : List t.den} {own : List Nat} (hs : asSrc bk t sa = some (xs, own)) (hu : isAt ρ sa u) :
    ∃ A c flat Se, u = .slice A (List.length (α := t.den) xs) c ∧ elemsR (rep w R t) xs flat Se ∧ (0 < List.length (α := t.den) xs → ∃ ad, A = some ad ∧ ∀ (j : Nat) (x : Value), flat[j]? = some x → w.cell? (ad.add j) = some x) ∧
      Se.Nodup ∧ ∀ b ∈ Se, ∃ k ∈ own, b ∈ S k := by
  unfold asSrc at hs
  split at hs
  · rename_i id
    split at hs
    · rename_i own' e' t' ys hbk
      split at hs
      · rename_i ht
        subst ht
        have hb := h.blks id
        have hu' : ρ id = some u := hu
        rw [hbk] at hb
        obtain ⟨v', h1, v'', flat, Se, h2, h3, h4⟩ := hb
        simp only [List.cons.injEq, and_true] at h2
        subst h2
        rw [hu', Option.some.injEq] at h1
        subst h1
        have key : xs = ys → (∀ b ∈ Se, ∃ k ∈ own, b ∈ S k) → Se.Nodup → ∃ A c flat Se, u = .slice A (List.length (α := t'.den) xs) c ∧ elemsR (rep w R t') xs flat Se ∧ (0 < List.length (α := t'.den) xs → ∃ ad, A = some ad ∧ ∀ (j : Nat) (x : Value), flat[j]? = some x → w.cell? (ad.add j) = some x) ∧
            Se.Nodup ∧ ∀ b ∈ Se, ∃ k ∈ own, b ∈ S k := by
          intro hxy hSe hnd
          subst hxy
          cases own'
          · obtain ⟨⟨A, c, rfl, hc⟩, _⟩ := h4
            exact ⟨A, c, flat, Se, rfl, h3, fun h0 => by obtain ⟨ad, rfl, _, hcc⟩ := hc h0; exact ⟨ad, rfl, hcc⟩, hnd, hSe⟩
          · obtain ⟨ho, _⟩ := h4
            have ho' := ho
            rcases ho.2 with ⟨rfl, h0⟩ | ⟨g, cap, cur, rfl, _⟩
            · exact ⟨none, 0, flat, Se, by rw [h0], h3, fun hp => by omega, hnd, hSe⟩
            · exact ⟨_, cap, flat, Se, rfl, h3, fun _ => ⟨_, rfl, ho'.cells (g := g) rfl⟩, hnd, hSe⟩
        split at hs
        · rename_i htr
          simp only [Option.some.injEq, Prod.mk.injEq] at hs
          obtain ⟨h5, rfl⟩ := hs
          have hnil : Se = [] := List.eq_nil_iff_forall_not_mem.2 fun b hb => elemsR_all (p := fun _ => False) (fun x c T hr b hb => by rw [rep_ro_nil htr hr] at hb; simp at hb) h3 b hb
          exact key h5.symm (fun b hb => by rw [hnil] at hb; simp at hb) (by rw [hnil]; exact List.nodup_nil)
        · split at hs
          · simp only [Option.some.injEq, Prod.mk.injEq] at hs
            obtain ⟨h5, rfl⟩ := hs
            have hS := h4.2
            have hN := h.nodup id
            rw [hS, List.nodup_append] at hN
            exact key h5.symm (fun b hb => ⟨id, by simp, by rw [hS]; simp [hb]⟩) hN.2.1
          · cases hs
      · cases hs
    · cases hs
  · simp only [Option.some.injEq, Prod.mk.injEq] at hs
    obtain ⟨rfl, rfl⟩ := hs
    obtain ⟨rfl, _⟩ := hu
    exact ⟨none, 0, [], [], rfl, ⟨rfl, rfl⟩, fun h0 => by simp at h0, List.nodup_nil, by simp⟩
  · cases hs

theorem asRow_unk {e : TypeId} {t : Ty} {sa : At} {r : List t.den × List Nat} (h : asRow bk e t sa = some r) : sa ≠ .unk := by
  rintro rfl; simp [asRow] at h
theorem asSrc_unk {t : Ty} {sa : At} {r : List t.den × List Nat} (h : asSrc bk t sa = some r) : sa ≠ .unk := by
  rintro rfl; simp [asSrc] at h

theorem sound_append {args : Array Operand} {tys : Array TypeId} {s x : Operand} {T : TypeId} {ty : Ty} {bytes : Nat} {e : TypeId} {i : TI} {sa xa : At} {xs ys : List i.ty.den} {own own' : List Nat} (ho : o.op = .call ⟨.builtin .append, args, tys⟩)
    (hargs : args.toList = [s, x]) (htys : tys.toList = [T, T]) (hT : TIok P T ⟨ty, .slice e, bytes⟩) (he : TIok P e i) (hs : evalA sl s = .comp false [sa]) (hx : evalA sl x = .comp false [xa])
    (h1 : asRow bk e i.ty sa = some (xs, own)) (h2 : asSrc bk i.ty xa = some (ys, own')) (hnd : nodupB (own ++ own') = true) (hb0 : 0 < i.bytes)
    (hb : (List.length (α := i.ty.den) xs + List.length (α := i.ty.den) ys) * i.bytes ≤ 140737488355328) (hlt : ∀ k ∈ own ++ own', k < nx) :
    OpSound P o sl bk nx ⟨one (.sl nx), (nx, .row true e i.ty (xs ++ ys)) :: deads (own ++ own')⟩ := by
  refine sound_newRow hlt fun n w R ρ S a h => ?_
  have ha : args = #[s, x] := by rw [← Array.toArray_toList (xs := args), hargs]
  have ht : tys = #[T, T] := by rw [← Array.toArray_toList (xs := tys), htys]
  subst ha; subst ht
  obtain ⟨d, hd, hsh⟩ := hT.under
  have := shape_slice hsh
  subst this
  obtain ⟨j, hj, hjs, hjb⟩ := he.size
  have hz := he.zero
  simp only [hj, Option.bind_some] at hz
  cases hzz : j.zero with
  | none => simp [hzz] at hz
  | some z =>
  simp only [hzz, Option.map_some, Option.some.injEq] at hz
  have hzs : z.cells.size = i.ty.size := by rw [hz, List.size_toArray]; exact rep_len (w := w) (R := R) (rep_zero i.ty)
  obtain ⟨fx, Sx, ex, ox, ux⟩ := asRow_sound h h1 (ev_at h hs (asRow_unk h1))
  obtain ⟨A, c, fy, Sy, hv, ey, hcy, ny, uy⟩ := asSrc_sound h h2 (ev_at h hx (asSrc_unk h2))
  have hndl := nodupB_sound hnd
  have hlen : List.length (α := i.ty.den) xs + List.length (α := i.ty.den) ys ≤ maxLen := by
    have := Nat.le_mul_of_pos_right (List.length (α := i.ty.den) xs + List.length (α := i.ty.den) ys) hb0
    unfold maxLen; omega
  have key : ∃ v' w', (Builtin.append_ #[T, T] o.type #[a.eval s, a.eval x]).run P w = .ok v' w' ∧ w'.ownsRow 0 e i.ty.size v' (List.length (α := i.ty.den) xs + List.length (α := i.ty.den) ys) (fx ++ fy) ∧ w.grownBy w' (a.eval s).ownBlock ∧
      (v'.ownBlock = (a.eval s).ownBlock ∨ v'.ownBlock = some w.heap.size) := by
    rw [hv]
    cases A with
    | none =>
      have h0 : List.length (α := i.ty.den) ys = 0 := by
        rcases Nat.eq_zero_or_pos (List.length (α := i.ty.den) ys) with h0 | h0
        · exact h0
        · obtain ⟨ad, hA, _⟩ := hcy h0; cases hA
      have hys : ys = [] := List.eq_nil_of_length_eq_zero h0
      subst hys
      have hfy : fy = [] := ey.1
      subst hfy
      exact ⟨a.eval s, w, by simpa using run_append_nilSrc hd hj ox c, by simpa using ox, World.grownBy.refl w _, .inl rfl⟩
    | some ad =>
      have hcells : ∀ (k : Nat) (u : Value), fy[k]? = some u → w.cell? (ad.add k) = some u := by
        intro k u hu
        rcases Nat.eq_zero_or_pos (List.length (α := i.ty.den) ys) with h0 | h0
        · have hys : ys = [] := List.eq_nil_of_length_eq_zero h0
          subst hys
          rw [ey.1] at hu; simp at hu
        · obtain ⟨ad', hA, hcc⟩ := hcy h0
          simp only [Option.some.injEq] at hA
          subst hA
          exact hcc k u hu
      obtain ⟨v', w', r1, r2, r3, _, r5⟩ := run_append_own_at (P := P) w 0 T o.type e j z i.ty.size i.bytes hd hj hzz hjs hjb hzs i.ty.size_pos (a.eval s) _ fx ox ad _ c fy (flat_len ey) hcells (flat_one ey) hlen hb (Nat.zero_le _)
      exact ⟨v', w', r1, r2, r3, r5⟩
  obtain ⟨v', w', r1, r2, r3, r5⟩ := key
  have hrun : (execOp a.eval o).run P w = .ok (.value v') w' := by
    simp [execOp, ho, resolve, invoke, builtin, r1]
  have hblk : ∀ b ∈ (a.eval s).ownBlock.toList, ∃ k ∈ own, b ∈ S k := by
    intro b hb'
    have : b ∈ own.flatMap S := by rw [ux]; exact List.mem_append_left _ hb'
    exact List.mem_flatMap.1 this
  have hSx : ∀ b ∈ Sx, ∃ k ∈ own, b ∈ S k := by
    intro b hb'
    have : b ∈ own.flatMap S := by rw [ux]; exact List.mem_append_right _ hb'
    exact List.mem_flatMap.1 this
  have hnx := nodup_flat (S := S) h.nodup h.disj (List.nodup_append.1 hndl).1
  rw [ux, List.nodup_append] at hnx
  have hxy : ∀ b k, k ∈ own → b ∈ S k → b ∉ Sy := by
    intro b k hk hbk hby
    obtain ⟨q, hq, hqb⟩ := uy b hby
    exact h.disj k q ((List.nodup_append.1 hndl).2.2 k hk q hq) b hbk hqb
  have hkeep : ∀ b, (∃ k, b ∈ S k) ∨ R b → b ∉ (a.eval s).ownBlock.toList → w'.heap[b]? = w.heap[b]? := by
    intro b hb' hne
    refine r3.block b ?_ (fun e' => hne (by rw [← e']; simp))
    rcases hb' with ⟨k, hk⟩ | hR
    · exact h.lt k b hk
    · exact h.Rlt b hR
  have hRk : ∀ b, R b → w'.heap[b]? = w.heap[b]? := fun b hb' => hkeep b (.inr hb') (fun hm => by
    obtain ⟨k, _, hk⟩ := hblk b hm
    exact h.offR k b hk hb')
  have hone : v'.oneCell' = true := by rcases r2.2 with ⟨rfl, _⟩ | ⟨g, cap, cur, rfl, _⟩ <;> rfl
  refine ⟨v', w', hrun, hone, Keeps.of_grown r3 (fun k hk => ?_), v'.ownBlock.toList ++ (Sx ++ Sy), ⟨v', fx ++ fy, Sx ++ Sy, rfl, ?_, ?_, rfl⟩, ?_, ?_⟩
  · obtain ⟨q, hq, hqk⟩ := hblk k (by rw [hk]; simp)
    exact ⟨q, List.mem_append_left _ hq, hqk⟩
  · refine elemsR_app.2 ⟨fx, fy, Sx, Sy, rfl, rfl, ?_, ?_⟩
    · exact elemsR_mono (fun y cc T' hT' hy => rep_keep hRk (fun _ hb => hb) (fun b hb' => hkeep b (by obtain ⟨k, _, hk⟩ := hSx b (hT' b hb'); exact .inl ⟨k, hk⟩) (fun hm => hnx.2.2 b hm b (hT' b hb') rfl)) hy) ex
    · exact elemsR_mono (fun y cc T' hT' hy => rep_keep hRk (fun _ hb => hb) (fun b hb' => hkeep b (by obtain ⟨k, _, hk⟩ := uy b (hT' b hb'); exact .inl ⟨k, hk⟩) (fun hm => by
        obtain ⟨k, hk, hkb⟩ := hblk b hm
        exact hxy b k hk hkb (hT' b hb'))) hy) ey
  · rw [List.length_append]; exact r2
  · rw [List.nodup_append]
    refine ⟨by cases v'.ownBlock <;> simp, ?_, ?_⟩
    · rw [List.nodup_append]
      refine ⟨hnx.2.1, ny, fun b hb' c' hc' e' => ?_⟩
      obtain ⟨k, hk, hkb⟩ := hSx b hb'
      exact hxy b k hk hkb (e' ▸ hc')
    · intro b hb' c' hc' e'
      subst e'
      rcases r5 with r5 | r5
      · rw [r5] at hb'
        rcases List.mem_append.1 hc' with hc' | hc'
        · exact hnx.2.2 b hb' b hc' rfl
        · obtain ⟨k, hk, hkb⟩ := hblk b hb'
          exact hxy b k hk hkb hc'
      · rw [r5] at hb'
        simp only [Option.toList_some, List.mem_singleton] at hb'
        rcases List.mem_append.1 hc' with hc' | hc'
        · obtain ⟨k, _, hkb⟩ := hSx b hc'
          have := h.lt k b hkb; omega
        · obtain ⟨k, _, hkb⟩ := uy b hc'
          have := h.lt k b hkb; omega
  · intro b hb'
    rcases List.mem_append.1 hb' with hb' | hb'
    · rcases r5 with r5 | r5
      · rw [r5] at hb'
        obtain ⟨k, hk, hkb⟩ := hblk b hb'
        exact .inl ⟨k, List.mem_append_left _ hk, hkb⟩
      · rw [r5] at hb'
        simp only [Option.toList_some, List.mem_singleton] at hb'
        exact .inr (by omega)
    · rcases List.mem_append.1 hb' with hb' | hb'
      · obtain ⟨k, hk, hkb⟩ := hSx b hb'
        exact .inl ⟨k, List.mem_append_left _ hk, hkb⟩
      · obtain ⟨k, hk, hkb⟩ := uy b hb'
        exact .inl ⟨k, List.mem_append_right _ hk, hkb⟩

end Go.Eng
