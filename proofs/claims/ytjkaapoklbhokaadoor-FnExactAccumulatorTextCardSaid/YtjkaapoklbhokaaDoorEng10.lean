/- The engine, part 10: make and append. Conditions as in part 5. -/
import Derived.Test.YtjkaapoklbhokaaDoorEng9
import Derived.Laws.Slices
import Derived.Laws.BytesString
import Derived.Laws.StructEq
import Derived.ChangeKeysEq
set_option linter.all false
namespace Go.Eng
open Go.RowKit

variable {P : Program} {ti : Nat → Option TI}
variable {n : Nat} {w w' : World} {R R' : Nat → Prop} {sl : Nat → AV} {bk : Nat → Blk} {ρ ρ' : Rho} {S S' : Nat → List Nat} {a : Act} {e : Eff} {v : Value} {o : Oper} {nx : Nat}

theorem made_succ (z : Array Value) (hz : 0 < z.size) (m : Nat) : (madeCells z ((m + 1) * z.size)).toList = (madeCells z (m * z.size)).toList ++ z.toList := by
  apply List.ext_getElem?
  intro j
  have h1 : (m + 1) * z.size = m * z.size + z.size := by rw [Nat.add_mul, Nat.one_mul]
  rcases Nat.lt_or_ge j (m * z.size) with hj | hj
  · rw [List.getElem?_append_left (by simpa [madeCells] using hj)]
    have hj' : j < (m + 1) * z.size := by omega
    simp [madeCells, hj, hj']
  · rw [List.getElem?_append_right (by simpa [madeCells] using hj)]
    simp only [madeCells, Array.toList_map, Array.toList_range, List.getElem?_map, List.length_map, List.length_range, Array.getElem?_toList]
    rcases Nat.lt_or_ge j ((m + 1) * z.size) with hj' | hj'
    · rw [List.getElem?_range hj']
      have hk : j % z.size = j - m * z.size := by
        have : j = (j - m * z.size) + m * z.size := by omega
        rw [this, Nat.add_mul_mod_self_right, Nat.mod_eq_of_lt (by omega)]
        omega
      have hlt : j - m * z.size < z.size := by omega
      simp [hk, hlt]
    · rw [List.getElem?_eq_none (by simpa using hj')]
      simp only [Option.map_none]
      rw [Array.getElem?_eq_none (by omega)]

theorem elems_made {t : Ty} : ∀ m : Nat, elemsR (rep w R t) (List.replicate m t.dflt) (madeCells (zeroCs t).toArray (m * t.size)).toList []
  | 0 => by simp [madeCells, elemsR, Array.range_zero']
  | m + 1 => by
    have hl : (zeroCs t).toArray.size = t.size := by rw [List.size_toArray]; exact rep_len (w := w) (R := R) (rep_zero t)
    have := made_succ (zeroCs t).toArray (by rw [hl]; exact t.size_pos) m
    rw [hl] at this
    rw [this, List.replicate_succ']
    exact elemsR_app.2 ⟨_, _, [], [], rfl, rfl, elems_made m, elemsR_one.2 (rep_zero t)⟩

theorem sound_make {T : TypeId} {l c : Operand} {ty : Ty} {bytes : Nat} {e : TypeId} {i : TI} {m : Int} (ho : o.op = .makeSlice T l c) (hT : TIok P T ⟨ty, .slice e, bytes⟩) (he : TIok P e i)
    (hl : evalA sl l = .comp false [.sc (.int .i64 m)]) (hc : evalA sl c = .comp false [.sc (.int .i64 m)]) (hm : 0 ≤ m ∧ m ≤ 9223372036854775807 ∧ (i.bytes : Int) * m ≤ 281474976710656) :
    OpSound P o sl bk nx ⟨one (.sl nx), [(nx, .row true e i.ty (List.replicate m.toNat i.ty.dflt))]⟩ := by
  refine sound_newRow (own := []) (by simp) fun n w R ρ S a h => ?_
  obtain ⟨d, hd, hsh⟩ := hT.under
  have := shape_slice hsh
  subst this
  obtain ⟨j, hj, hjs, hjb⟩ := he.size
  have hz := he.zero
  simp only [hj, Option.bind_some] at hz
  cases hzz : j.zero with
  | none => simp [hzz] at hz
  | some z =>
    simp only [hzz, Option.map_some, Option.some.injEq] at hz
    have hr := run_make (P := P) w T e j z hd hj hzz .i64 .i64 m m hm.1 (Int.le_refl _) (by rw [hjb]; exact hm.2.2) hm.2.1
    rw [hjs, hz] at hr
    have hrun : (execOp a.eval o).run P w = .ok (.value (.slice (some ⟨w.heap.size, 0, none⟩) m.toNat m.toNat)) (w.alloc (.cells (madeCells (zeroCs i.ty).toArray (m.toNat * i.ty.size)) e)) := by
      simp [execOp, ho, ev_sc h hl, ev_sc h hc, hr]
    refine ⟨_, _, hrun, rfl, Keeps.alloc _ _ _, [w.heap.size], ⟨_, _, [], rfl, elems_made m.toNat, ?_, rfl⟩, by simp, fun b hb => .inr (by simp at hb; omega)⟩
    rw [List.length_replicate]
    have h63 : m.toNat ≤ maxLen := by unfold maxLen; omega
    exact World.ownsRow_lit w _ m.toNat (Nat.zero_le _) h63 (size_madeCells _ _)

theorem rep_one : ∀ {t : Ty} {x : t.den} {cs : List Value} {T : List Nat}, rep w R t x cs T → ∀ u ∈ cs, u.oneCell' = true
  | .int _, _, _, _, h, u, hu => by rw [h.1, List.mem_singleton] at hu; rw [hu]; rfl
  | .bool, _, _, _, h, u, hu => by rw [h.1, List.mem_singleton] at hu; rw [hu]; rfl
  | .str, _, _, _, h, u, hu => by rw [h.1, List.mem_singleton] at hu; rw [hu]; rfl
  | .map _, _, _, _, h, u, hu => by rcases h with ⟨h1, _⟩ | ⟨_, h1, _⟩ <;> rw [h1, List.mem_singleton] at hu <;> rw [hu] <;> rfl
  | .pair a b, x, cs, T, ⟨c1, c2, S1, S2, h1, _, h3, h4⟩, u, hu => by
    rw [h1, List.mem_append] at hu
    rcases hu with hu | hu
    · exact rep_one h3 u hu
    · exact rep_one h4 u hu
  | .row own e t, xs, cs, T, h, u, hu => by
    obtain ⟨v, flat, Se, h1, h2, h3⟩ := h
    rw [h1, List.mem_singleton] at hu
    subst hu
    cases own
    · obtain ⟨⟨A, c, rfl, _⟩, _⟩ := h3; rfl
    · rcases h3.1.2 with ⟨rfl, _⟩ | ⟨g, cap, cur, rfl, _⟩ <;> rfl

theorem flat_one {t : Ty} : ∀ {xs : List t.den} {flat : List Value} {T : List Nat}, elemsR (rep w R t) xs flat T → ∀ u ∈ flat, u.oneCell' = true
  | [], flat, T, h, u, hu => by rw [h.1] at hu; simp at hu
  | x :: xs, flat, T, ⟨c1, c2, S1, S2, h1, _, h3, h4⟩, u, hu => by
    rw [h1, List.mem_append] at hu
    rcases hu with hu | hu
    · exact rep_one h3 u hu
    · exact flat_one h4 u hu

theorem run_append_nilSrc {t ty e : TypeId} {i : TypeInfo} (ht : P.underlying t = some (.slice e)) (hi : P.info? e = some i) {base size n : Nat} {v : Value} {xs : List Value} (hown : w.ownsRow base e size v n xs) (c : Nat) :
    (Builtin.append_ #[t, t] ty #[v, .slice none 0 c]).run P w = .ok v w := by
  rcases hown.2 with ⟨rfl, rfl⟩ | ⟨g, cap, cur, rfl, _, _, hnc, _⟩
  · simp [Builtin.append_, run_underlying ht, sizeOf, typeInfo, hi, Builtin.lenOf, Builtin.firstCells]
  · simp [Builtin.append_, run_underlying ht, sizeOf, typeInfo, hi, Builtin.lenOf, Builtin.firstCells, hnc, storeCells]

/-- The row that is appended to, and the one that is copied, read. -/
theorem asRow_sound (h : Inv n w R sl bk ρ S a) {e : TypeId} {t : Ty} {sa : At} {u : Value} {xs : List t.den} {own : List Nat} (hs : asRow bk e t sa = some (xs, own)) (hu : isAt ρ sa u) :
    ∃ flat Se, elemsR (rep w R t) xs flat Se ∧ w.ownsRow 0 e t.size u (List.length (α := t.den) xs) flat ∧ own.flatMap S = u.ownBlock.toList ++ Se := by
  unfold asRow at hs
  split at hs
  · rename_i id
    split at hs
    · rename_i he
      split at hs
      · rename_i ys hys
        simp only [Option.some.injEq, Prod.mk.injEq] at hs
        obtain ⟨rfl, rfl⟩ := hs
        obtain ⟨e', hbk⟩ := rowCast_own hys
        rw [hbk] at he
        simp only [elemOf, Option.some.injEq] at he
        subst he
        have hb := h.blks id
        rw [hbk] at hb
        obtain ⟨v', h1, v'', flat, Se, h2, h3, h4, h5⟩ := hb
        simp only [List.cons.injEq, and_true] at h2
        subst h2
        have hu' : ρ id = some u := hu
        rw [hu', Option.some.injEq] at h1
        subst h1
        exact ⟨flat, Se, h3, h4, by simpa using h5⟩
      · cases hs
    · cases hs
  · simp only [Option.some.injEq, Prod.mk.injEq] at hs
    obtain ⟨rfl, rfl⟩ := hs
    obtain ⟨rfl, _⟩ := hu
    exact ⟨[], [], ⟨rfl, rfl⟩, World.ownsRow_nil w 0 e t.size, rfl⟩
  · cases hs

theorem asSrc_sound (h : Inv n w R sl bk ρ S a) {t : Ty} {sa : At} {u : Value} {xs : List t.den} {own : List Nat} (hs : asSrc bk t sa = some (xs, own)) (hu : isAt ρ sa u) :
    ∃ A c flat Se, u = .slice A (List.length (α := t.den) xs) c ∧ elemsR (rep w R t) xs flat Se ∧ (0 < List.length (α := t.den) xs → ∃ ad, A = some ad ∧ ∀ (j : Nat) (x : Value), flat[j]? = some x → w.cell? (ad.add j) = some x) ∧
      Se.Nodup ∧ ∀ b ∈ Se, ∃ k ∈ own, b ∈ S k := by
  unfold asSrc at hs
  split at hs
  · rename_i id
    split at hs
    · rename_i own' e' t' ys hbk
      split at hs
      · rename_i ht
        subst ht
        have hb := h.blks id
        have hu' : ρ id = some u := hu
        rw [hbk] at hb
        obtain ⟨v', h1, v'', flat, Se, h2, h3, h4⟩ := hb
        simp only [List.cons.injEq, and_true] at h2
        subst h2
        rw [hu', Option.some.injEq] at h1
        subst h1
        have key : xs = ys → (∀ b ∈ Se, ∃ k ∈ own, b ∈ S k) → Se.Nodup → ∃ A c flat Se, u = .slice A (List.length (α := t'.den) xs) c ∧ elemsR (rep w R t') xs flat Se ∧ (0 < List.length (α := t'.den) xs → ∃ ad, A = some ad ∧ ∀ (j : Nat) (x : Value), flat[j]? = some x → w.cell? (ad.add j) = some x) ∧
            Se.Nodup ∧ ∀ b ∈ Se, ∃ k ∈ own, b ∈ S k := by
          intro hxy hSe hnd
          subst hxy
          cases own'
          · obtain ⟨⟨A, c, rfl, hc⟩, _⟩ := h4
            exact ⟨A, c, flat, Se, rfl, h3, fun h0 => by obtain ⟨ad, rfl, _, hcc⟩ := hc h0; exact ⟨ad, rfl, hcc⟩, hnd, hSe⟩
          · obtain ⟨ho, _⟩ := h4
            have ho' := ho
            rcases ho.2 with ⟨rfl, h0⟩ | ⟨g, cap, cur, rfl, _⟩
            · exact ⟨none, 0, flat, Se, by rw [h0], h3, fun hp => by omega, hnd, hSe⟩
            · exact ⟨_, cap, flat, Se, rfl, h3, fun _ => ⟨_, rfl, ho'.cells (g := g) rfl⟩, hnd, hSe⟩
        split at hs
        · rename_i htr
          simp only [Option.some.injEq, Prod.mk.injEq] at hs
          obtain ⟨h5, rfl⟩ := hs
          have hnil : Se = [] := List.eq_nil_iff_forall_not_mem.2 fun b hb => elemsR_all (p := fun _ => False) (fun x c T hr b hb => by rw [rep_ro_nil htr hr] at hb; simp at hb) h3 b hb
          exact key h5.symm (fun b hb => by rw [hnil] at hb; simp at hb) (by rw [hnil]; exact List.nodup_nil)
        · split at hs
          · simp only [Option.some.injEq, Prod.mk.injEq] at hs
            obtain ⟨h5, rfl⟩ := hs
            have hS := h4.2
            have hN := h.nodup id
            rw [hS, List.nodup_append] at hN
            exact key h5.symm (fun b hb => ⟨id, by simp, by rw [hS]; simp [hb]⟩) hN.2.1
          · cases hs
      · cases hs
    · cases hs
  · simp only [Option.some.injEq, Prod.mk.injEq] at hs
    obtain ⟨rfl, rfl⟩ := hs
    obtain ⟨rfl, _⟩ := hu
    exact ⟨none, 0, [], [], rfl, ⟨rfl, rfl⟩, fun h0 => by simp at h0, List.nodup_nil, by simp⟩
  · cases hs

theorem asRow_unk {e : TypeId} {t : Ty} {sa : At} {r : List t.den × List Nat} (h : asRow bk e t sa = some r) : sa ≠ .unk := by
  rintro rfl; simp [asRow] at h
theorem asSrc_unk {t : Ty} {sa : At} {r : List t.den × List Nat} (h : asSrc bk t sa = some r) : sa ≠ .unk := by
  rintro rfl; simp [asSrc] at h

theorem sound_append {args : Array Operand} {tys : Array TypeId} {s x : Operand} {T : TypeId} {ty : Ty} {bytes : Nat} {e : TypeId} {i : TI} {t : Ty} {sa xa : At} {xs ys : List t.den} {own own' : List Nat} (ho : o.op = .call ⟨.builtin .append, args, tys⟩)
    (hargs : args.toList = [s, x]) (htys : tys.toList = [T, T]) (hT : TIok P T ⟨ty, .slice e, bytes⟩) (he : TIok P e i) (hs : evalA sl s = .comp false [sa]) (hx : evalA sl x = .comp false [xa])
    (hts : t.size = i.ty.size) (hsu : sa ≠ .unk) (h1 : ∀ (n : Nat) (w : World) (R : Nat → Prop) (ρ : Rho) (S : Nat → List Nat) (a : Act) (u : Value), Inv n w R sl bk ρ S a → isAt ρ sa u → ∃ flat Se, elemsR (rep w R t) xs flat Se ∧ w.ownsRow 0 e t.size u (List.length (α := t.den) xs) flat ∧ own.flatMap S = u.ownBlock.toList ++ Se) (h2 : asSrc bk t xa = some (ys, own')) (hnd : nodupB (own ++ own') = true) (hb0 : 0 < i.bytes)
    (hb : (List.length (α := t.den) xs + List.length (α := t.den) ys) * i.bytes ≤ 140737488355328) (hlt : ∀ k ∈ own ++ own', k < nx) :
    OpSound P o sl bk nx ⟨one (.sl nx), (nx, .row true e t (xs ++ ys)) :: deads (own ++ own')⟩ := by
  refine sound_newRow hlt fun n w R ρ S a h => ?_
  have ha : args = #[s, x] := by rw [← Array.toArray_toList (xs := args), hargs]
  have ht : tys = #[T, T] := by rw [← Array.toArray_toList (xs := tys), htys]
  subst ha; subst ht
  obtain ⟨d, hd, hsh⟩ := hT.under
  have := shape_slice hsh
  subst this
  obtain ⟨j, hj, hjs, hjb⟩ := he.size
  have hz := he.zero
  simp only [hj, Option.bind_some] at hz
  cases hzz : j.zero with
  | none => simp [hzz] at hz
  | some z =>
  simp only [hzz, Option.map_some, Option.some.injEq] at hz
  have hzs : z.cells.size = i.ty.size := by rw [hz, List.size_toArray]; exact rep_len (w := w) (R := R) (rep_zero i.ty)
  obtain ⟨fx, Sx, ex, ox, ux⟩ := h1 n w R ρ S a _ h (ev_at h hs hsu)
  rw [hts] at ox
  obtain ⟨A, c, fy, Sy, hv, ey, hcy, ny, uy⟩ := asSrc_sound h h2 (ev_at h hx (asSrc_unk h2))
  have hndl := nodupB_sound hnd
  have hlen : List.length (α := t.den) xs + List.length (α := t.den) ys ≤ maxLen := by
    have := Nat.le_mul_of_pos_right (List.length (α := t.den) xs + List.length (α := t.den) ys) hb0
    unfold maxLen; omega
  have key : ∃ v' w', (Builtin.append_ #[T, T] o.type #[a.eval s, a.eval x]).run P w = .ok v' w' ∧ w'.ownsRow 0 e i.ty.size v' (List.length (α := t.den) xs + List.length (α := t.den) ys) (fx ++ fy) ∧ w.grownBy w' (a.eval s).ownBlock ∧
      (v'.ownBlock = (a.eval s).ownBlock ∨ v'.ownBlock = some w.heap.size) := by
    rw [hv]
    cases A with
    | none =>
      have h0 : List.length (α := t.den) ys = 0 := by
        rcases Nat.eq_zero_or_pos (List.length (α := t.den) ys) with h0 | h0
        · exact h0
        · obtain ⟨ad, hA, _⟩ := hcy h0; cases hA
      have hys : ys = [] := List.eq_nil_of_length_eq_zero h0
      subst hys
      have hfy : fy = [] := ey.1
      subst hfy
      exact ⟨a.eval s, w, by simpa using run_append_nilSrc hd hj ox c, by simpa using ox, World.grownBy.refl w _, .inl rfl⟩
    | some ad =>
      have hcells : ∀ (k : Nat) (u : Value), fy[k]? = some u → w.cell? (ad.add k) = some u := by
        intro k u hu
        rcases Nat.eq_zero_or_pos (List.length (α := t.den) ys) with h0 | h0
        · have hys : ys = [] := List.eq_nil_of_length_eq_zero h0
          subst hys
          rw [ey.1] at hu; simp at hu
        · obtain ⟨ad', hA, hcc⟩ := hcy h0
          simp only [Option.some.injEq] at hA
          subst hA
          exact hcc k u hu
      obtain ⟨v', w', r1, r2, r3, _, r5⟩ := run_append_own_at (P := P) w 0 T o.type e j z i.ty.size i.bytes hd hj hzz hjs hjb hzs i.ty.size_pos (a.eval s) _ fx ox ad _ c fy (by rw [← hts]; exact flat_len ey) hcells (flat_one ey) hlen hb (Nat.zero_le _)
      exact ⟨v', w', r1, r2, r3, r5⟩
  obtain ⟨v', w', r1, r2, r3, r5⟩ := key
  have hrun : (execOp a.eval o).run P w = .ok (.value v') w' := by
    simp [execOp, ho, resolve, invoke, builtin, r1]
  have hblk : ∀ b ∈ (a.eval s).ownBlock.toList, ∃ k ∈ own, b ∈ S k := by
    intro b hb'
    have : b ∈ own.flatMap S := by rw [ux]; exact List.mem_append_left _ hb'
    exact List.mem_flatMap.1 this
  have hSx : ∀ b ∈ Sx, ∃ k ∈ own, b ∈ S k := by
    intro b hb'
    have : b ∈ own.flatMap S := by rw [ux]; exact List.mem_append_right _ hb'
    exact List.mem_flatMap.1 this
  have hnx := nodup_flat (S := S) h.nodup h.disj (List.nodup_append.1 hndl).1
  rw [ux, List.nodup_append] at hnx
  have hxy : ∀ b k, k ∈ own → b ∈ S k → b ∉ Sy := by
    intro b k hk hbk hby
    obtain ⟨q, hq, hqb⟩ := uy b hby
    exact h.disj k q ((List.nodup_append.1 hndl).2.2 k hk q hq) b hbk hqb
  have hkeep : ∀ b, (∃ k, b ∈ S k) ∨ R b → b ∉ (a.eval s).ownBlock.toList → w'.heap[b]? = w.heap[b]? := by
    intro b hb' hne
    refine r3.block b ?_ (fun e' => hne (by rw [← e']; simp))
    rcases hb' with ⟨k, hk⟩ | hR
    · exact h.lt k b hk
    · exact h.Rlt b hR
  have hRk : ∀ b, R b → w'.heap[b]? = w.heap[b]? := fun b hb' => hkeep b (.inr hb') (fun hm => by
    obtain ⟨k, _, hk⟩ := hblk b hm
    exact h.offR k b hk hb')
  have hone : v'.oneCell' = true := by rcases r2.2 with ⟨rfl, _⟩ | ⟨g, cap, cur, rfl, _⟩ <;> rfl
  refine ⟨v', w', hrun, hone, Keeps.of_grown r3 (fun k hk => ?_), v'.ownBlock.toList ++ (Sx ++ Sy), ⟨v', fx ++ fy, Sx ++ Sy, rfl, ?_, ?_, rfl⟩, ?_, ?_⟩
  · obtain ⟨q, hq, hqk⟩ := hblk k (by rw [hk]; simp)
    exact ⟨q, List.mem_append_left _ hq, hqk⟩
  · refine elemsR_app.2 ⟨fx, fy, Sx, Sy, rfl, rfl, ?_, ?_⟩
    · exact elemsR_mono (fun y cc T' hT' hy => rep_keep hRk (fun _ hb => hb) (fun b hb' => hkeep b (by obtain ⟨k, _, hk⟩ := hSx b (hT' b hb'); exact .inl ⟨k, hk⟩) (fun hm => hnx.2.2 b hm b (hT' b hb') rfl)) hy) ex
    · exact elemsR_mono (fun y cc T' hT' hy => rep_keep hRk (fun _ hb => hb) (fun b hb' => hkeep b (by obtain ⟨k, _, hk⟩ := uy b (hT' b hb'); exact .inl ⟨k, hk⟩) (fun hm => by
        obtain ⟨k, hk, hkb⟩ := hblk b hm
        exact hxy b k hk hkb (hT' b hb'))) hy) ey
  · rw [List.length_append, hts]; exact r2
  · rw [List.nodup_append]
    refine ⟨by cases v'.ownBlock <;> simp, ?_, ?_⟩
    · rw [List.nodup_append]
      refine ⟨hnx.2.1, ny, fun b hb' c' hc' e' => ?_⟩
      obtain ⟨k, hk, hkb⟩ := hSx b hb'
      exact hxy b k hk hkb (e' ▸ hc')
    · intro b hb' c' hc' e'
      subst e'
      rcases r5 with r5 | r5
      · rw [r5] at hb'
        rcases List.mem_append.1 hc' with hc' | hc'
        · exact hnx.2.2 b hb' b hc' rfl
        · obtain ⟨k, hk, hkb⟩ := hblk b hb'
          exact hxy b k hk hkb hc'
      · rw [r5] at hb'
        simp only [Option.toList_some, List.mem_singleton] at hb'
        rcases List.mem_append.1 hc' with hc' | hc'
        · obtain ⟨k, _, hkb⟩ := hSx b hc'
          have := h.lt k b hkb; omega
        · obtain ⟨k, _, hkb⟩ := uy b hc'
          have := h.lt k b hkb; omega
  · intro b hb'
    rcases List.mem_append.1 hb' with hb' | hb'
    · rcases r5 with r5 | r5
      · rw [r5] at hb'
        obtain ⟨k, hk, hkb⟩ := hblk b hb'
        exact .inl ⟨k, List.mem_append_left _ hk, hkb⟩
      · rw [r5] at hb'
        simp only [Option.toList_some, List.mem_singleton] at hb'
        exact .inr (by omega)
    · rcases List.mem_append.1 hb' with hb' | hb'
      · obtain ⟨k, hk, hkb⟩ := hSx b hb'
        exact .inl ⟨k, List.mem_append_left _ hk, hkb⟩
      · obtain ⟨k, hk, hkb⟩ := uy b hb'
        exact .inl ⟨k, List.mem_append_right _ hk, hkb⟩

theorem asRowR_sound (h : Inv n w R sl bk ρ S a) {e : TypeId} {t : Ty} {sa : At} {u : Value} {xs : List t.ro.den} {own : List Nat} (hs : asRowR bk e t sa = some (xs, own)) (hu : isAt ρ sa u) :
    ∃ flat Se, elemsR (rep w R t.ro) xs flat Se ∧ w.ownsRow 0 e t.ro.size u (List.length (α := t.ro.den) xs) flat ∧ own.flatMap S = u.ownBlock.toList ++ Se := by
  unfold asRowR at hs
  split at hs
  · rename_i r hr
    simp only [Option.some.injEq] at hs
    subst hs
    exact asRow_sound h hr hu
  · split at hs
    · rename_i own' hr
      simp only [Option.some.injEq, Prod.mk.injEq] at hs
      obtain ⟨rfl, rfl⟩ := hs
      obtain ⟨flat, Se, h1, h2, h3⟩ := asRow_sound h hr hu
      obtain ⟨rfl, rfl⟩ := h1
      refine ⟨[], [], ⟨rfl, rfl⟩, ?_, h3⟩
      rw [Ty.ro_size]
      exact h2
    · cases hs

theorem asRowR_unk {e : TypeId} {t : Ty} {sa : At} {r : List t.ro.den × List Nat} (h : asRowR bk e t sa = some r) : sa ≠ .unk := by
  rintro rfl; simp [asRowR, asRow] at h

/- Parts of rows. -/
theorem block_add' (ad : Addr) (m : Nat) : (ad.add m).block = ad.block := by unfold Addr.add; split <;> rfl

theorem sub_roRow {A : Option Addr} {c size m l h : Nat} {flat : List Value} (hr : roRow w R (.slice A m c) m flat) (hl : l ≤ h) (hh : h ≤ m) :
    roRow w R (sliced A l h c size) (h - l) ((flat.take (h * size)).drop (l * size)) := by
  obtain ⟨A', c', he, hr⟩ := hr
  simp only [Value.slice.injEq, true_and] at he
  obtain ⟨rfl, rfl⟩ := he
  refine ⟨_, _, rfl, fun hn => ?_⟩
  obtain ⟨ad, rfl, ⟨hb, hnc⟩, hc⟩ := hr (by omega)
  rw [if_neg (by omega)]
  refine ⟨ad.add (l * size), rfl, ⟨by rw [block_add']; exact hb, by omega⟩, fun j u hu => ?_⟩
  rw [Go.Deep.add_add]
  refine hc _ u ?_
  rw [List.getElem?_drop, List.getElem?_take] at hu
  split at hu
  · exact hu
  · cases hu

theorem elemsR_take {α : Type} {Q : α → List Value → List Nat → Prop} {sz : Nat} (hsz : ∀ x c S, Q x c S → c.length = sz) {xs : List α} {cs : List Value} (h : elemsR Q xs cs []) {k : Nat} (hk : k ≤ xs.length) :
    elemsR Q (xs.take k) (cs.take (k * sz)) [] ∧ elemsR Q (xs.drop k) (cs.drop (k * sz)) [] := by
  rw [← List.take_append_drop k xs] at h
  obtain ⟨c1, c2, S1, S2, rfl, h2, h3, h4⟩ := elemsR_app.1 h
  obtain ⟨rfl, rfl⟩ := List.append_eq_nil_iff.1 h2.symm
  have hl := elemsR_len hsz h3
  rw [List.length_take, Nat.min_eq_left hk] at hl
  rw [← hl, List.take_left, List.drop_left]
  exact ⟨h3, h4⟩

theorem sub_row {e : TypeId} {t : Ty} {xs : List t.den} {A : Option Addr} {c l h : Nat} (hr : rep w R (.row false e t) xs [.slice A (List.length (α := t.den) xs) c] []) (hl : l ≤ h) (hh : h ≤ List.length (α := t.den) xs) :
    rep w R (.row false e t) (xsub (α := t.den) xs l h) [sliced A l h c t.size] [] := by
  obtain ⟨v', flat, Se, h1, h2, h3, h4⟩ := hr
  simp only [List.cons.injEq, and_true] at h1
  subst h1; subst h4
  obtain ⟨k1, _⟩ := elemsR_take (sz := t.size) (fun _ _ _ h => rep_len h) h2 hh
  obtain ⟨_, k2⟩ := elemsR_take (sz := t.size) (k := l) (fun _ _ _ h => rep_len h) k1 (by rw [List.length_take]; omega)
  refine ⟨_, _, [], rfl, k2, ?_, rfl⟩
  have e1 : List.length (α := t.den) (xsub (α := t.den) xs l h) = h - l := by
    simp only [xsub, List.length_drop, List.length_take]
    omega
  rw [e1]
  exact sub_roRow h3 hl hh

theorem ro_of_own {own : Bool} {e : TypeId} {t : Ty} {xs : List t.den} {u : Value} {T : List Nat} (htr : t.ro = t) (hr : rep w R (.row own e t) xs [u] T) : rep w (fun b => R b ∨ b ∈ T) (.row false e t) xs [u] [] := by
  obtain ⟨v', flat, Se, h1, h2, h3⟩ := hr
  have hSe : Se = [] := List.eq_nil_iff_forall_not_mem.2 fun b hb =>
    elemsR_all (p := fun _ => False) (fun x c T hr b hb => by rw [rep_ro_nil htr hr] at hb; simp at hb) h2 b hb
  subst hSe
  refine ⟨v', flat, [], h1, elemsR_mono (fun x c T hT h => rep_keep (fun _ _ => rfl) (fun _ h => .inl h) (fun _ _ => rfl) h) h2, ?_, rfl⟩
  cases own
  · exact roRow_keep h3.1 (fun _ _ => rfl) (fun _ h => .inl h)
  · exact roRow_of_own h3.1 (fun b hb => .inr (by rw [h3.2]; exact List.mem_append_left _ hb))

/-- A part of a row. -/
theorem sound_sub {T e0 : TypeId} {x : Operand} {lo hi : Option Operand} {id : Nat} {own : Bool} {e : TypeId} {t : Ty} {xs : List t.den} {ty : Ty} {bytes : Nat} {j : TI} {l h : Nat} (ho : o.op = .slice T x lo hi none)
    (hT : TIok P T ⟨ty, .slice e0, bytes⟩) (he : TIok P e0 j) (hx : evalA sl x = .comp false [.sl id]) (hb : bk id = .row own e t xs) (htr : t.ro = t) (hsz : j.ty.size = t.size) (hid : id < nx) (hl : l ≤ h) (hh : h ≤ List.length (α := t.den) xs)
    (hrun : ∀ (n : Nat) (w : World) (R : Nat → Prop) (ρ : Rho) (S : Nat → List Nat) (a : Act) (A : Option Addr) (c : Nat), Inv n w R sl bk ρ S a → h ≤ c →
      (Instr.sliceBounds true (List.length (α := t.den) xs) c (lo.map a.eval) (hi.map a.eval) none).run P w = .ok (l, h, c) w) :
    OpSound P o sl bk nx ⟨one (.sl nx), subUpd nx id own e t xs l h⟩ := by
  have key : ∀ (n : Nat) (w : World) (R : Nat → Prop) (ρ : Rho) (S : Nat → List Nat) (a : Act), Inv n w R sl bk ρ S a → ∃ A c, a.eval x = .slice A (List.length (α := t.den) xs) c ∧ ρ id = some (a.eval x) ∧ rep w (fun b => R b ∨ b ∈ S id) (.row false e t) xs [a.eval x] [] ∧
      (execOp a.eval o).run P w = .ok (.value (sliced A l h c t.size)) w := by
    intro n w R ρ S a hI
    obtain ⟨h1, h2⟩ := ev_row hI hx hb
    obtain ⟨A, c, hv⟩ := row_form h2
    have h3 := ro_of_own htr h2
    obtain ⟨d, hd, hsh⟩ := hT.under
    have := shape_slice hsh
    subst this
    have hc : h ≤ c := by
      obtain ⟨v', flat, Se, k1, k2, ⟨A', c', k3, k4⟩, _⟩ := h3
      simp only [List.cons.injEq, and_true] at k1
      rw [← k1, hv] at k3
      simp only [Value.slice.injEq, true_and] at k3
      obtain ⟨rfl, rfl⟩ := k3
      by_cases h0 : 0 < List.length (α := t.den) xs
      · obtain ⟨_, _, ⟨_, k5⟩, _⟩ := k4 h0
        omega
      · omega
    refine ⟨A, c, hv, h1, h3, ?_⟩
    have hs := run_size he w
    rw [hsz] at hs
    have hbd := hrun n w R ρ S a A c hI hc
    simp [execOp, ho, hv, Instr.sliceAt, Instr.slice, run_underlying hd, hbd, hs, sliced]
  cases own
  · refine sound_rows (by simp [subUpd]) fun n w R ρ S a hI => ?_
    obtain ⟨A, c, hv, h1, h2, hr⟩ := key n w R ρ S a hI
    have hS : S id = [] := by
      obtain ⟨_, h3⟩ := ev_row hI hx hb
      have h3' : rep w R (.row false e t) xs [a.eval x] (S id) := h3
      exact rep_ro_nil (t := .row false e t) (by simp only [Ty.ro, htr]) h3'
    rw [hv] at h2
    have h4 := sub_row h2 hl hh
    refine ⟨_, hr, fun _ => sliced A l h c t.size, fun _ _ => rfl, fun ρ' _ hρ => ⟨isAV_of (hρ nx (by simp [subUpd])), fun i hi => ?_⟩⟩
    simp only [subUpd, List.map_cons, List.map_nil, List.mem_singleton] at hi
    subst hi
    simp only [subUpd, updBk, ↓reduceIte]
    exact ⟨_, hρ i (by simp [subUpd]), rep_keep (fun _ _ => rfl) (fun b hb => by rw [hS] at hb; simpa using hb) (fun _ _ => rfl) h4⟩
  · intro n w R ρ S a next Q hI hf hk
    obtain ⟨A, c, hv, h1, h2, hr⟩ := key n w R ρ S a hI
    have h2' := h2
    rw [hv] at h2'
    have h4 := sub_row h2' hl hh
    have hne : id ≠ nx := by omega
    have hids : ∀ i ∈ (Eff.ids ⟨one (.sl nx), subUpd nx id true e t xs l h⟩), i = id ∨ i = nx := by
      intro i hi
      simpa [Eff.ids, subUpd] using hi
    have hfn : ρ nx = none := hf nx (by simp [Eff.ids, subUpd]) (Nat.le_refl _)
    unfold Oper.wp
    rw [hr]
    obtain ⟨ρ', S', hp⟩ := Post.of (e := ⟨one (.sl nx), subUpd nx id true e t xs l h⟩) (w' := w) (R' := fun b => R b ∨ b ∈ S id) (v := sliced A l h c t.size) hI (new := [nx]) (vals := fun _ => sliced A l h c t.size) (Sx := fun _ => [])
      (fun i hi => by simp only [List.mem_singleton] at hi; subst hi; simp [Eff.ids, subUpd]) (fun i hi => by simp only [List.mem_singleton] at hi; subst hi; exact hfn) (fun _ _ => rfl) (Keeps.refl _ _)
      (fun i hi => by
        rcases hids i hi with rfl | rfl
        · simp only [subUpd, updBk, ↓reduceIte]
          exact ⟨a.eval x, by rw [Rho.add_not (by simpa using hne)]; exact h1, h2⟩
        · simp only [subUpd, updBk, if_neg (Ne.symm hne), ↓reduceIte]
          exact ⟨_, Rho.add_mem (by simp), h4⟩)
      (fun i hi b hb => by simp at hb) (by rw [show (Eff.ids ⟨one (.sl nx), subUpd nx id true e t xs l h⟩).flatMap (fun _ => ([] : List Nat)) = [] from List.flatMap_eq_nil_iff.2 fun _ _ => rfl]; exact List.nodup_nil)
      (fun _ hb => .inl hb) (fun b hb => hb.elim .inl fun h => .inr (.inl ⟨id, by simp [Eff.ids, subUpd], h⟩)) (fun b hb => hb.elim (hI.Rlt b) (hI.lt id b)) (fun i hi b hb => by simp at hb) (isAV_of (Rho.add_mem (by simp)))
    exact hk _ _ _ _ _ hp

theorem elems_u8 : ∀ {xs : List Int} {cs : List Value} {T : List Nat}, elemsR (rep w R (.int .u8)) xs cs T → cs = xs.map (Value.int .u8)
  | [], _, _, h => h.1
  | x :: xs, _, _, ⟨c1, c2, S1, S2, h1, h2, h3, h4⟩ => by
    rw [h1, h3.1, elems_u8 h4]; rfl

/-- The text of bytes. -/
theorem sound_b2s {src dst e0 : TypeId} {x : Operand} {id : Nat} {own : Bool} {e : TypeId} {xs : List Int} {ty ty' ty'' : Ty} {b1 b2 b3 : Nat} (ho : o.op = .convert src dst x) (hs : TIok P src ⟨ty, .slice e0, b1⟩) (he : TIok P e0 ⟨ty', .int .u8, b2⟩)
    (hd : TIok P dst ⟨ty'', .string, b3⟩) (hx : evalA sl x = .comp false [.sl id]) (hb : bk id = .row own e (.int .u8) xs) : OpSound P o sl bk nx ⟨scS (b2s xs), []⟩ :=
  sound_pure fun n w R ρ S a hI => by
    obtain ⟨h1, h2⟩ := ev_row hI hx hb
    obtain ⟨A, c, hv⟩ := row_form h2
    have h3 := ro_of_own (t := .int .u8) rfl h2
    obtain ⟨d1, k1, q1⟩ := hs.under
    have := shape_slice q1
    subst this
    obtain ⟨d2, k2, q2⟩ := he.under
    have := shape_int q2
    subst this
    obtain ⟨d3, k3, q3⟩ := hd.under
    have := shape_string q3
    subst this
    refine ⟨.string (b2s xs), ?_, isAV_of ⟨rfl, rfl⟩⟩
    have hc := run_convert_bytes_string w src dst e0 A xs.length c k1 k2 k3
    obtain ⟨v', flat, Se, p1, p2, ⟨A', c', p3, p4⟩, _⟩ := h3
    simp only [List.cons.injEq, and_true] at p1
    rw [← p1, hv] at p3
    simp only [Value.slice.injEq, true_and] at p3
    obtain ⟨rfl, rfl⟩ := p3
    have hflat := elems_u8 p2
    have hv' : a.eval x = .slice A xs.length c := hv
    have hm : (Conv.bytesToString (.slice A xs.length c)).run P w = .ok (.string (b2s xs)) w := by
      cases A with
      | none =>
        have h0 : xs.length = 0 := by
          rcases Nat.eq_zero_or_pos xs.length with h0 | h0
          · exact h0
          · obtain ⟨_, hcon, _⟩ := p4 h0; cases hcon
        have : xs = [] := List.eq_nil_of_length_eq_zero h0
        subst this
        simp [Conv.bytesToString]
      | some ad =>
        refine run_bytesToString w ad xs.length c xs ?_
        have hlen : (xs.map (Value.int .u8)).length = xs.length := by simp
        have := run_loadCells_list (P := P) w ad (xs.map (Value.int .u8)) (fun j u hu => by
          have h0 : 0 < xs.length := by
            rcases Nat.eq_zero_or_pos xs.length with h0 | h0
            · have : xs = [] := List.eq_nil_of_length_eq_zero h0
              subst this; simp at hu
            · exact h0
          obtain ⟨ad', hA, _, hcc⟩ := p4 h0
          simp only [Option.some.injEq] at hA
          subst hA
          exact hcc j u (by rw [hflat]; exact hu))
        rw [hlen] at this
        exact this
    simp [execOp, ho, hv', hc, hm]

/- Structs, compared. -/
def skOk (P : Program) (U : TypeId) : SK → Bool
  | .int => match P.underlying U with
    | some (.int _) => true
    | _ => false
  | .bool => match P.underlying U with
    | some .bool => true
    | _ => false
  | .str => match P.underlying U with
    | some .string => true
    | _ => false
def flatF (P : Program) : List SK → List Field → Nat → Bool
  | [], [], _ => true
  | k :: ks, f :: fs, n => f.name != "_" && (f.offset == n && (skOk P f.type k && flatF P ks fs (n + 1)))
  | _, _, _ => false
def eqFlatB (P : Program) (T : TypeId) (ks : List SK) : Bool :=
  match P.underlying T with
  | some (.struct fs) => !P.stoodInHeld T && (!P.eqGuardType P.depth T && flatF P ks fs.toList 0)
  | some (.array m e) => decide (ks.length = m) && (decide (P.cellsOf e = 1) && (!P.eqGuardType P.depth T && ks.all (skOk P e)))
  | _ => false

theorem skOk_under {U : TypeId} {k : SK} (h : skOk P U k = true) : match k with
    | .int => ∃ q, P.underlying U = some (.int q)
    | .bool => P.underlying U = some .bool
    | .str => P.underlying U = some .string := by
  cases k
  · simp only [skOk] at h
    split at h
    · rename_i q hq; exact ⟨q, hq⟩
    · cases h
  · simp only [skOk] at h
    split at h
    · rename_i hq; exact hq
    · cases h
  · simp only [skOk] at h
    split at h
    · rename_i hq; exact hq
    · cases h

theorem run_part {U : TypeId} {k : SK} {xs : Array Value} {off : Nat} {u : Value} (hs : skOk P U k = true) (hu : xs[off]? = some u) : (part U xs off).run P w = .ok u w := by
  have h := skOk_under hs
  cases k
  · obtain ⟨q, hk⟩ := h
    simp [part, isAgg, run_underlying hk, hu]
  · have hk : P.underlying U = some .bool := h
    simp [part, isAgg, run_underlying hk, hu]
  · have hk : P.underlying U = some .string := h
    simp [part, isAgg, run_underlying hk, hu]

theorem eqAt_sound {d : Nat} {U : TypeId} {k : SK} {c c' : At} {x y : Value} {q : Bool} (hs : skOk P U k = true) (he : eqAt k c c' = some q) (hx : isAt ρ c x) (hy : isAt ρ c' y) : (Op.equalIn (d + 1) U x y).run P w = .ok q w := by
  have h := skOk_under hs
  unfold eqAt at he
  split at he
  · split at he
    · rename_i hk
      subst hk
      simp only [Option.some.injEq] at he
      subst he
      obtain ⟨q, hq⟩ := h
      rw [hx.1, hy.1]
      exact run_equalIn_int w d U _ q _ _ hq
    · cases he
  · simp only [Option.some.injEq] at he
    subst he
    rw [hx.1, hy.1]
    exact run_equalIn_bool' w d U _ _ h
  · simp only [Option.some.injEq] at he
    subst he
    rw [hx.1, hy.1]
    exact run_equalIn_string w d U _ _ h
  · cases he

theorem run_eqFlat (d : Nat) : ∀ {ks : List SK} {fs : List Field} {m : Nat} {cs ds : List At} {xs ys pre pre' : List Value} {r : Bool}, flatF P ks fs m = true → eqCs ks cs ds = some r → pre.length = m → pre'.length = m →
    All2 (isAt ρ) cs xs → All2 (isAt ρ) ds ys → (Op.eqFields (d + 1) (pre ++ xs).toArray (pre' ++ ys).toArray fs).run P w = .ok r w
  | [], [], m, cs, ds, xs, ys, pre, pre', r, _, he, _, _, _, _ => by
    unfold eqCs at he
    split at he
    · simp only [Option.some.injEq] at he
      subst he
      simp [Op.eqFields]
    · rename_i h1 _ _; cases h1
    · cases he
  | k :: ks, f :: fs, m, cs, ds, xs, ys, pre, pre', r, hf, he, hp, hp', hx, hy => by
    simp only [flatF, Bool.and_eq_true, bne_iff_ne, beq_iff_eq] at hf
    obtain ⟨hn, hoff, hsc, hf⟩ := hf
    match cs, ds, xs, ys, he, hx, hy with
    | c :: cs, c' :: ds, x :: xs, y :: ys, he, hx, hy =>
      simp only [eqCs] at he
      split at he
      · rename_i q hq
        split at he
        · rename_i r' hr'
          simp only [Option.some.injEq] at he
          subst he
          have h1 := eqAt_sound (w := w) (d := d) hsc hq hx.1 hy.1
          have px := run_part (w := w) (xs := (pre ++ x :: xs).toArray) (off := f.offset) (u := x) hsc (by rw [hoff]; simp [← hp])
          have py := run_part (w := w) (xs := (pre' ++ y :: ys).toArray) (off := f.offset) (u := y) hsc (by rw [hoff]; simp [← hp'])
          have ih := run_eqFlat d (pre := pre ++ [x]) (pre' := pre' ++ [y]) hf hr' (by simp [hp]) (by simp [hp']) hx.2 hy.2
          simp only [List.append_assoc, List.singleton_append] at ih
          cases q
          · simp [Op.eqFields, hn, px, py, h1]
          · simp [Op.eqFields, hn, px, py, h1, ih]
        · cases he
      · cases he
    | [], _, _, _, he, _, _ => simp [eqCs] at he
    | _ :: _, [], _, _, he, _, _ => simp [eqCs] at he
  | [], _ :: _, _, _, _, _, _, _, _, _, hf, _, _, _, _, _ => by simp [flatF] at hf
  | _ :: _, [], _, _, _, _, _, _, _, _, hf, _, _, _, _, _ => by simp [flatF] at hf

theorem run_eqItems (d : Nat) {U : TypeId} : ∀ {ks : List SK} {cs ds : List At} {xs ys pre pre' : List Value} {r : Bool}, ks.all (skOk P U) = true → eqCs ks cs ds = some r → pre.length = pre'.length →
    All2 (isAt ρ) cs xs → All2 (isAt ρ) ds ys → (Op.eqItems (d + 1) U 1 (pre ++ xs).toArray (pre' ++ ys).toArray (List.range' pre.length ks.length)).run P w = .ok r w
  | [], cs, ds, xs, ys, pre, pre', r, _, he, _, _, _ => by
    unfold eqCs at he
    split at he
    · simp only [Option.some.injEq] at he
      subst he
      simp [Op.eqItems]
    · rename_i h1 _ _; cases h1
    · cases he
  | k :: ks, cs, ds, xs, ys, pre, pre', r, hf, he, hp, hx, hy => by
    simp only [List.all_cons, Bool.and_eq_true] at hf
    obtain ⟨hsc, hf⟩ := hf
    match cs, ds, xs, ys, he, hx, hy with
    | c :: cs, c' :: ds, x :: xs, y :: ys, he, hx, hy =>
      simp only [eqCs] at he
      split at he
      · rename_i q hq
        split at he
        · rename_i r' hr'
          simp only [Option.some.injEq] at he
          subst he
          have h1 := eqAt_sound (w := w) (d := d) hsc hq hx.1 hy.1
          have px := run_part (w := w) (xs := (pre ++ x :: xs).toArray) (off := pre.length) (u := x) hsc (by simp)
          have py := run_part (w := w) (xs := (pre' ++ y :: ys).toArray) (off := pre.length) (u := y) hsc (by simp [hp])
          have ih := run_eqItems d (pre := pre ++ [x]) (pre' := pre' ++ [y]) hf hr' (by simp [hp]) hx.2 hy.2
          simp only [List.append_assoc, List.singleton_append, List.length_append, List.length_cons, List.length_nil, Nat.zero_add] at ih
          cases q
          · simp [Op.eqItems, List.range'_succ, px, py, h1]
          · simp [Op.eqItems, List.range'_succ, px, py, h1, ih]
        · cases he
      · cases he
    | [], _, _, _, he, _, _ => simp [eqCs] at he
    | _ :: _, [], _, _, he, _, _ => simp [eqCs] at he

theorem sound_eqS {op : BinOp} {T yT : TypeId} {x y : Operand} {ks : List SK} {cs ds : List At} {r : Bool} (hop : op = .eql ∨ op = .neq) (ho : o.op = .binOp op T x y yT) (hf : eqFlatB P T ks = true) (hx : evalA sl x = .comp true cs) (hy : evalA sl y = .comp true ds)
    (he : eqCs ks cs ds = some r) : OpSound P o sl bk nx ⟨scB (match op with | .eql => r | _ => bnot r), []⟩ :=
  sound_pure fun n w R ρ S a hI => by
    have h1 := evalA_sound hI x
    have h2 := evalA_sound hI y
    rw [hx] at h1
    rw [hy] at h2
    have h1 : ∃ vs, a.eval x = .agg (List.toArray vs) ∧ All2 (isAt ρ) cs vs := by
      rcases h1 with ⟨h, _⟩ | h
      · cases h
      · exact h
    have h2 : ∃ vs, a.eval y = .agg (List.toArray vs) ∧ All2 (isAt ρ) ds vs := by
      rcases h2 with ⟨h, _⟩ | h
      · cases h
      · exact h
    obtain ⟨us, e1, q1⟩ := h1
    obtain ⟨vs, e2, q2⟩ := h2
    unfold eqFlatB at hf
    split at hf
    · rename_i fs hfs
      simp only [Bool.and_eq_true, Bool.not_eq_true'] at hf
      obtain ⟨f1, f2, f3⟩ := hf
      have hfs' : P.fieldsOf T = fs := by simp [Program.fieldsOf, hfs]
      have hrun := run_eqFlat (w := w) (P := P) 9998 (pre := []) (pre' := []) f3 he rfl rfl q1 q2
      simp only [List.nil_append] at hrun
      have hg := run_eqGuard_agg (P := P) w op T x y us.toArray vs.toArray f2
      have heq := run_equalIn_struct (P := P) w 9999 T us.toArray vs.toArray (by rw [hfs']; exact hfs) f1
      rw [hfs', hrun] at heq
      rcases hop with rfl | rfl
      · refine ⟨.bool r, ?_, isAV_of ⟨rfl, rfl⟩⟩
        simp [execOp, ho, e1, e2, hg, run_eql_struct, heq]
      · refine ⟨.bool (!r), ?_, isAV_of ⟨rfl, rfl⟩⟩
        simp [execOp, ho, e1, e2, hg, run_neq_struct, heq]
    · rename_i m e hfs
      simp only [Bool.and_eq_true, Bool.not_eq_true', decide_eq_true_eq] at hf
      obtain ⟨f1, f2, f3, f4⟩ := hf
      cases hi : P.info? e with
      | none => simp [Program.cellsOf, hi] at f2
      | some i =>
        have hrun := run_eqItems (w := w) (P := P) 9998 (pre := []) (pre' := []) f4 he rfl q1 q2
        simp only [List.nil_append, List.length_nil] at hrun
        have hg := run_eqGuard_agg (P := P) w op T x y us.toArray vs.toArray f3
        have heq := run_equalIn_array (P := P) (w := w) 9999 us.toArray vs.toArray hfs hi
        rw [f2, ← f1, List.range_eq_range', hrun] at heq
        rcases hop with rfl | rfl
        · refine ⟨.bool r, ?_, isAV_of ⟨rfl, rfl⟩⟩
          simp [execOp, ho, e1, e2, hg, run_eql_struct, heq]
        · refine ⟨.bool (!r), ?_, isAV_of ⟨rfl, rfl⟩⟩
          simp [execOp, ho, e1, e2, hg, run_neq_struct, heq]
    · cases hf

end Go.Eng
