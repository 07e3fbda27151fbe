/- The engine, part 11: every operation that is no call of a function does in the model what part 4 says. Condition: what the engine is told of the types is true of the program. -/
import Derived.Test.YtjkaapoklbhokaaDoorEng26
set_option linter.all false
namespace Go.Eng
open Go.RowKit

variable {P : Program} {ti : Nat → Option TI}
variable {sl : Nat → AV} {bk : Nat → Blk} {e : Eff} {v : Value} {o : Oper} {nx : Nat}

theorem lt_of_row (hlt : ∀ i, nx ≤ i → bk i = .dead) {id : Nat} {own : Bool} {e : TypeId} {t : Ty} {xs : List t.den} (h : bk id = .row own e t xs) : id < nx := by
  rcases Nat.lt_or_ge id nx with h' | h'
  · exact h'
  · rw [hlt id h'] at h; cases h

theorem reify_lt (hlt : ∀ i, nx ≤ i → bk i = .dead) : ∀ {t : Ty} {cs : List At} {x : t.den} {own ro : List Nat}, reify bk t cs = some (x, own, ro) → (∀ k ∈ own, k < nx) ∧ ∀ k ∈ ro, k < nx
  | .int _, cs, x, own, ro, h => by
    simp only [reify] at h
    split at h
    · split at h
      · simp only [Option.some.injEq, Prod.mk.injEq] at h; obtain ⟨_, rfl, rfl⟩ := h; simp
      · cases h
    · cases h
  | .bool, cs, x, own, ro, h => by
    simp only [reify] at h
    split at h
    · simp only [Option.some.injEq, Prod.mk.injEq] at h; obtain ⟨_, rfl, rfl⟩ := h; simp
    · cases h
  | .str, cs, x, own, ro, h => by
    simp only [reify] at h
    split at h
    · simp only [Option.some.injEq, Prod.mk.injEq] at h; obtain ⟨_, rfl, rfl⟩ := h; simp
    · cases h
  | .pair p q, cs, x, own, ro, h => by
    simp only [reify] at h
    split at h
    · rename_i h1
      split at h
      · rename_i h2
        simp only [Option.some.injEq, Prod.mk.injEq] at h
        obtain ⟨_, rfl, rfl⟩ := h
        obtain ⟨a1, a2⟩ := reify_lt hlt h1
        obtain ⟨b1, b2⟩ := reify_lt hlt h2
        exact ⟨fun k hk => (List.mem_append.1 hk).elim (a1 k) (b1 k), fun k hk => (List.mem_append.1 hk).elim (a2 k) (b2 k)⟩
      · cases h
    · cases h
  | .row o e t, cs, x, own, ro, h => by
    simp only [reify] at h
    split at h
    · rename_i id
      split at h
      · rename_i he
        have hid : id < nx := by
          rcases Nat.lt_or_ge id nx with h' | h'
          · exact h'
          · rw [hlt id h'] at he; cases he
        split at h
        · simp only [Option.some.injEq, Prod.mk.injEq] at h
          obtain ⟨_, rfl, rfl⟩ := h
          cases o <;> simp [hid]
        · cases h
      · cases h
    · simp only [Option.some.injEq, Prod.mk.injEq] at h
      obtain ⟨_, rfl, rfl⟩ := h
      simp
    · cases h
  | .map o, cs, x, own, ro, h => by
    simp only [reify] at h
    split at h
    · rename_i id
      split at h
      · rename_i nn own' l hbk
        have hid : id < nx := by
          rcases Nat.lt_or_ge id nx with h' | h'
          · exact h'
          · rw [hlt id h'] at hbk; cases hbk
        cases o
        · simp only [Option.some.injEq, Prod.mk.injEq] at h
          obtain ⟨_, rfl, rfl⟩ := h
          simp [hid]
        · cases own'
          · cases h
          · simp only [Option.some.injEq, Prod.mk.injEq] at h
            obtain ⟨_, rfl, rfl⟩ := h
            simp [hid]
      · cases h
    · simp only [Option.some.injEq, Prod.mk.injEq] at h
      obtain ⟨_, rfl, rfl⟩ := h
      simp
    · cases h

theorem reifyL_lt (hlt : ∀ i, nx ≤ i → bk i = .dead) {t : Ty} : ∀ {vs : List AV} {xs : List t.den} {own : List Nat}, reifyL bk t vs = some (xs, own) → ∀ k ∈ own, k < nx
  | [], xs, own, h => by
    simp only [reifyL, Option.some.injEq, Prod.mk.injEq] at h
    obtain ⟨_, rfl⟩ := h; simp
  | v :: vs, xs, own, h => by
    simp only [reifyL] at h
    split at h
    · split at h
      · split at h
        · rename_i h1
          split at h
          · rename_i h2
            simp only [Option.some.injEq, Prod.mk.injEq] at h
            obtain ⟨_, rfl⟩ := h
            exact fun k hk => (List.mem_append.1 hk).elim ((reify_lt hlt h1).1 k) (reifyL_lt hlt h2 k)
          · cases h
        · cases h
      · cases h
    · cases h

theorem asRow_lt (hlt : ∀ i, nx ≤ i → bk i = .dead) {e : TypeId} {t : Ty} {sa : At} {xs : List t.den} {own : List Nat} (h : asRow bk e t sa = some (xs, own)) : ∀ k ∈ own, k < nx := by
  unfold asRow at h
  split at h
  · rename_i id
    split at h
    · rename_i he
      split at h
      · simp only [Option.some.injEq, Prod.mk.injEq] at h
        obtain ⟨_, rfl⟩ := h
        intro k hk
        rw [List.mem_singleton] at hk; subst hk
        rcases Nat.lt_or_ge k nx with h' | h'
        · exact h'
        · rw [hlt k h'] at he; cases he
      · cases h
    · cases h
  · simp only [Option.some.injEq, Prod.mk.injEq] at h
    obtain ⟨_, rfl⟩ := h; simp
  · cases h

theorem asRowR_lt (hlt : ∀ i, nx ≤ i → bk i = .dead) {e : TypeId} {t : Ty} {sa : At} {xs : List t.ro.den} {own : List Nat} (h : asRowR bk e t sa = some (xs, own)) : ∀ k ∈ own, k < nx := by
  unfold asRowR at h
  split at h
  · rename_i r hr
    simp only [Option.some.injEq] at h
    subst h
    exact asRow_lt hlt hr
  · split at h
    · rename_i own' hr
      simp only [Option.some.injEq, Prod.mk.injEq] at h
      obtain ⟨_, rfl⟩ := h
      exact asRow_lt hlt hr
    · cases h

theorem asSrc_lt (hlt : ∀ i, nx ≤ i → bk i = .dead) {t : Ty} {sa : At} {xs : List t.den} {own : List Nat} (h : asSrc bk t sa = some (xs, own)) : ∀ k ∈ own, k < nx := by
  unfold asSrc at h
  split at h
  · split at h
    · rename_i hbk
      have := lt_of_row hlt hbk
      split at h
      · split at h
        · simp only [Option.some.injEq, Prod.mk.injEq] at h
          obtain ⟨_, rfl⟩ := h; simp
        · split at h
          · simp only [Option.some.injEq, Prod.mk.injEq] at h
            obtain ⟨_, rfl⟩ := h; simpa using this
          · cases h
      · cases h
    · cases h
  · simp only [Option.some.injEq, Prod.mk.injEq] at h
    obtain ⟨_, rfl⟩ := h; simp
  · cases h

theorem split_list {j len : Nat} {c : List Value} : c.take j ++ (c.drop j).take len ++ c.drop (j + len) = c := by
  rw [List.append_assoc, ← List.drop_drop, List.take_append_drop, List.take_append_drop]

theorem aop_sound {X : Type} {k : Eff → Option X} {d : X} (hti : TIs P ti) (hlt : ∀ i, nx ≤ i → bk i = .dead) (h : aop ti nx sl bk o k = some d) : ∃ e, k e = some d ∧ OpSound P o sl bk nx e := by
  unfold aop at h
  split at h
  · rename_i x ho
    exact ⟨_, h, sound_move ho⟩
  · rename_i x ho
    split at h
    · rename_i hx _
      exact ⟨_, h, sound_assignNil ho hx⟩
    · exact ⟨_, h, sound_assign ho⟩
  · rename_i c x y ho
    split at h
    · rename_i b hc
      refine ⟨_, ?_, sound_pick ho hc⟩
      cases b <;> exact h
    · cases h
  · rename_i T ho
    split at h
    · rename_i i hi
      exact ⟨_, h, sound_alloc ho (hti T i hi)⟩
    · cases h
  · rename_i T x ho
    split at h
    · rename_i i cs hi hc
      exact ⟨_, h, sound_box ho hc⟩
    · cases h
  · rename_i T parts ho
    split at h
    · rename_i ty flds bytes hi
      split at h
      · rename_i hfl
        split at h
        · rename_i cs hf
          exact ⟨_, h, sound_build ho (hti _ _ hi) hfl hf⟩
        · cases h
      · cases h
    · rename_i ty m e bytes hi
      split at h
      · rename_i i he
        split at h
        · rename_i cs hf
          exact ⟨_, h, sound_buildArray ho (hti _ _ hi) (hti _ _ he) hf⟩
        · cases h
      · cases h
    · cases h
  · rename_i T len parts ho
    split at h
    · rename_i ty e bytes hi
      split at h
      · rename_i i he
        split at h
        · rename_i hl
          split at h
          · rename_i vs hvs
            split at h
            · rename_i xs own hr
              split at h
              · rename_i hnd
                exact ⟨_, h, sound_buildSlice ho (hti _ _ hi) (hti _ _ he) rfl hl.1 hl.2 hvs (fun n w R ρ S a us hI hv => by
                  have := reifyL_sound hI hr hv
                  rw [lent_nil] at this
                  exact this) hnd (reifyL_lt hlt hr)⟩
              · cases h
            · split at h
              · rename_i xs hr
                exact ⟨_, h, sound_buildSlice (own := []) ho (hti _ _ hi) (hti _ _ he) (Ty.ro_size _) hl.1 hl.2 hvs (fun n w R ρ S a us hI hv => reifyR_sound hI hr hv) rfl (by simp)⟩
              · cases h
          · cases h
        · cases h
      · cases h
    · cases h
  · rename_i T ad ho
    split at h
    · rename_i i id off hi hx
      split at h
      · rename_i cs T0 hb
        split at h
        · rename_i hl
          exact ⟨_, h, sound_loadPtr ho (hti _ _ hi) hx hb hl⟩
        · cases h
      · cases h
    · rename_i i id ix sz j hi hx
      split at h
      · rename_i own e t xs hb
        split at h
        · rename_i hh
          exact ⟨_, h, sound_loadElem ho (hti _ _ hi) hx hb hh.1 hh.2.1 hh.2.2⟩
        · split at h
          · rename_i hh
            obtain ⟨ho', hsz, hag⟩ := hh
            subst ho'
            split at h
            · rename_i e' t' hty
              split at h
              · rename_i ys hsub
                exact ⟨_, h, sound_loadHole ho (hti _ _ hi) hx hb hsz hag hty hsub (lt_of_row hlt hb)⟩
              · cases h
            · cases h
          · cases h
      · cases h
    · cases h
  · rename_i T ad x ho
    split at h
    · rename_i i id off ats hi hx ha
      split at h
      · rename_i cs T0 hb
        split at h
        · rename_i hh
          exact ⟨_, h, sound_storePtr ho (hti _ _ hi) hx hb ha hh.1 hh.2.1 hh.2.2 hlt⟩
        · cases h
      · cases h
    · rename_i i id ix sz j ats hi hx ha
      split at h
      · rename_i e t xs hb
        have hid := lt_of_row hlt hb
        split at h
        · rename_i hh
          split at h
          · rename_i hsz
            split at h
            · rename_i x' own hre
              split at h
              · rename_i hnd
                refine ⟨_, h, sound_storeElem ho (hti _ _ hi) hx hb ha hh.1 hh.2.1 hh.2.2.1 hh.2.2.2 hre hnd (fun k hk => ?_) (fun w R ρ c vs Ti hr hv => ?_)⟩
                · rcases List.mem_cons.1 hk with rfl | hk
                  · exact hid
                  · exact (reify_lt hlt hre).1 k hk
                · have hcl := rep_len hr
                  have h0 : j = 0 := by have := hh.2.2.1; omega
                  subst h0
                  rw [List.take_zero, List.nil_append, List.drop_eq_nil_of_le (by omega), List.append_nil]
                  exact hv
              · cases h
            · cases h
          · split at h
            · rename_i hnil
              obtain ⟨hnil, _⟩ := hnil
              split at h
              · rename_i x' hre
                refine ⟨_, h, sound_storeElem (own := []) ho (hti _ _ hi) hx hb ha hh.1 hh.2.1 hh.2.2.1 hh.2.2.2 hre (by simp [nodupB]) (by simpa using hid) (fun w R ρ c vs Ti hr hv => ?_)⟩
                obtain ⟨vals, Sx, _, _, hv2⟩ := inject_sound (n := nx) hr
                have hz : (inject t (List.getD (α := t.den) xs ix t.dflt) nx).2.1 = [] := List.eq_nil_of_length_eq_zero hnil
                obtain ⟨k1, _⟩ := hv2 ρ (by rw [hz]; simp)
                exact ((k1.take j).append hv).append (k1.drop (j + i.ty.size))
              · cases h
            · split at h
              · rename_i y0 y own hsub hre
                split at h
                · rename_i hnd
                  have h : k ⟨.tup [], (id, .row true e t (xset (α := t.den) xs ix (setDen t (xget (α := t.den) xs ix t.dflt) j i.ty y))) :: deads own⟩ = some d := h
                  refine ⟨_, h, sound_storePart ho (hti _ _ hi) hx hb ha hh.1 hh.2.1 hh.2.2.1 hh.2.2.2 hsub hre hnd (fun k hk => ?_)⟩
                  rcases List.mem_cons.1 hk with rfl | hk
                  · exact hid
                  · exact (reify_lt hlt hre).1 k hk
                · cases h
              · cases h
        · cases h
      · cases h
    · cases h
  · rename_i x ho
    split at h
    · rename_i id off hx
      exact ⟨_, h, sound_nil (by simp) ho hx fun ρ v hv => by obtain ⟨g, _, h2⟩ := hv; exact ⟨_, h2⟩⟩
    · rename_i id i sz j hx
      exact ⟨_, h, sound_nil (by simp) ho hx fun ρ v hv => by obtain ⟨ad, _, _, _, _, h2⟩ := hv; exact ⟨_, h2⟩⟩
    · cases h
  · rename_i op T x y yT ho
    obtain ⟨v, h1, h2⟩ := binK_sound (nx := nx) (bk := bk) hti ho h
    exact ⟨_, h1, h2⟩
  · rename_i op T x ho
    obtain ⟨v, h1, h2⟩ := unK_sound (P := P) (nx := nx) (bk := bk) ho h
    exact ⟨_, h1, h2⟩
  · rename_i src dst x ho
    split at h
    · rename_i i ty kd bytes k m hi hd hx
      exact ⟨_, h, sound_convert ho (hti _ _ hi) (hti _ _ hd) hx⟩
    · rename_i ty1 e0 b1 ty2 b2 id hs hd hx
      split at h
      · rename_i ty3 b3 own e xs he hb
        exact ⟨_, h, sound_b2s ho (hti _ _ hs) (hti _ _ he) (hti _ _ hd) hx hb⟩
      · cases h
    · cases h
  · rename_i T x lo hi ho
    split at h
    · rename_i ty bytes s k hh hT hx hlo hhi
      cases lo with
      | some l => simp at hlo
      | none =>
        cases hi with
        | none => simp at hhi
        | some hi' =>
          simp only [Option.map_some, Option.some.injEq] at hhi
          obtain ⟨hc, h⟩ := chk_some h
          exact ⟨_, h, sound_sliceHi ho (hti _ _ hT) hx hhi (by simpa using hc)⟩
    · rename_i ty bytes s k ll hT hx hlo hhi
      cases lo with
      | none => simp at hlo
      | some l =>
        cases hi with
        | some hi' => simp at hhi
        | none =>
          simp only [Option.map_some, Option.some.injEq] at hlo
          obtain ⟨hc, h⟩ := chk_some h
          exact ⟨_, h, sound_sliceLo ho (hti _ _ hT) hx hlo (by simpa using hc)⟩
    · rename_i ty bytes s k ll k' hh hT hx hlo hhi
      cases lo with
      | none => simp at hlo
      | some l =>
        cases hi with
        | none => simp at hhi
        | some hi' =>
          simp only [Option.map_some, Option.some.injEq] at hlo hhi
          obtain ⟨hc, h⟩ := chk_some h
          obtain ⟨hc', h⟩ := chk_some h
          exact ⟨_, h, sound_sliceBoth ho (hti _ _ hT) hx hlo hhi (by simpa using hc) (by simpa using hc')⟩
    · rename_i ty e0 bytes id k hh hT hx hlo hhi
      cases lo with
      | some l => simp at hlo
      | none =>
        cases hi with
        | none => simp at hhi
        | some hi' =>
          simp only [Option.map_some, Option.some.injEq] at hhi
          split at h
          · rename_i own e t xs j hb hj
            split at h
            · rename_i hh2
              obtain ⟨hc, h⟩ := chk_some h
              simp only [decide_eq_true_eq] at hc
              refine ⟨_, h, sound_sub ho (hti _ _ hT) (hti _ _ hj) hx hb hh2.1 hh2.2 (lt_of_row hlt hb) (Nat.zero_le _) (by have hc2 := hc.2; simp only [xlen, i2n] at hc2 ⊢; omega) fun n w R ρ S a A c hI hcap => ?_⟩
              simp only [i2n] at hcap
              simp [Instr.sliceBounds, ev_sc hI hhi, run_sliceBound w k hh c _ hc.1 (by omega)]
            · cases h
          · cases h
    · rename_i ty e0 bytes id k ll hT hx hlo hhi
      cases lo with
      | none => simp at hlo
      | some l =>
        cases hi with
        | some hi' => simp at hhi
        | none =>
          simp only [Option.map_some, Option.some.injEq] at hlo
          split at h
          · rename_i own e t xs j hb hj
            split at h
            · rename_i hh2
              obtain ⟨hc, h⟩ := chk_some h
              simp only [decide_eq_true_eq] at hc
              refine ⟨_, h, sound_sub ho (hti _ _ hT) (hti _ _ hj) hx hb hh2.1 hh2.2 (lt_of_row hlt hb) (by unfold i2n; omega) (Nat.le_refl _) fun n w R ρ S a A c hI hcap => ?_⟩
              simp [Instr.sliceBounds, ev_sc hI hlo, run_sliceBound w k ll _ _ hc.1 hc.2]
            · cases h
          · cases h
    · rename_i ty e0 bytes id k ll k' hh hT hx hlo hhi
      cases lo with
      | none => simp at hlo
      | some l =>
        cases hi with
        | none => simp at hhi
        | some hi' =>
          simp only [Option.map_some, Option.some.injEq] at hlo hhi
          split at h
          · rename_i own e t xs j hb hj
            split at h
            · rename_i hh2
              obtain ⟨hc, h⟩ := chk_some h
              obtain ⟨hc', h⟩ := chk_some h
              simp only [decide_eq_true_eq] at hc hc'
              refine ⟨_, h, sound_sub ho (hti _ _ hT) (hti _ _ hj) hx hb hh2.1 hh2.2 (lt_of_row hlt hb) (by have hc2 := hc'.2; simp only [xlen, i2n] at hc2 ⊢; omega) (by have hc2 := hc.2; simp only [xlen, i2n] at hc2 ⊢; omega) fun n w R ρ S a A c hI hcap => ?_⟩
              simp only [i2n] at hcap hc'
              simp [Instr.sliceBounds, ev_sc hI hlo, ev_sc hI hhi, run_sliceBound w k' hh c _ hc.1 (by omega), run_sliceBound w k ll hh.toNat _ hc'.1 (by omega)]
            · cases h
          · cases h
    · cases h
  · rename_i T x f ho
    split at h
    · rename_i ty flds bytes id off hi hx
      split at h
      · rename_i q s hf
        split at h
        · cases h
        · rename_i hs
          refine ⟨_, h, sound_field (by simp) ho (hti _ _ hi) hx hf hs fun ρ v hv => ?_⟩
          obtain ⟨g, h1, h2⟩ := hv
          exact ⟨⟨g, off, none⟩, h2, g, h1, by rw [Addr.add_lit]⟩
      · cases h
    · rename_i ty flds bytes id i sz j hi hx
      split at h
      · rename_i q s hf
        split at h
        · cases h
        · rename_i hs
          refine ⟨_, h, sound_field (by simp) ho (hti _ _ hi) hx hf hs fun ρ v hv => ?_⟩
          obtain ⟨ad, m, c, h1, h2, h3⟩ := hv
          exact ⟨_, h3, ad, m, c, h1, h2, by rw [Go.Deep.add_add, Nat.add_assoc]⟩
      · cases h
    · cases h
  · rename_i T x ix ho
    split at h
    · rename_i ty e bytes id k i hT hx hix
      split at h
      · rename_i own e' t xs j hb hj
        split at h
        · rename_i hsz
          obtain ⟨hc, h⟩ := chk_some h
          exact ⟨_, h, sound_indexAddr ho (hti _ _ hT) hx hix hb (hti _ _ hj) hsz (by simpa using hc)⟩
        · cases h
      · cases h
    · rename_i ty m e bytes id off k i hT hx hix
      split at h
      · rename_i j hj
        split at h
        · rename_i hq
          exact ⟨_, h, sound_indexArr ho (hti _ _ hT) (hti _ _ hj) hx hix hq⟩
        · cases h
      · cases h
    · cases h
  · rename_i T x ix ho
    split at h
    · rename_i ty bytes s k i hT hx hix
      obtain ⟨hc, h⟩ := chk_some h
      exact ⟨_, h, sound_index ho (hti _ _ hT) hx hix (by simpa using hc)⟩
    · cases h
  · rename_i t i ho
    split at h
    · rename_i vs ht
      split at h
      · rename_i b cs hc
        exact ⟨_, h, sound_extract ho ht hc⟩
      · cases h
    · cases h
  · rename_i T l c ho
    split at h
    · rename_i ty e bytes m m' hT hl hc
      split at h
      · rename_i i he
        obtain ⟨h1, hB⟩ := chk_some h
        obtain ⟨h2, hC⟩ := chk_some hB
        simp only [beq_iff_eq] at h1
        subst h1
        exact ⟨_, hC, sound_make ho (hti _ _ hT) (hti _ _ he) hl hc (by simpa using h2)⟩
      · cases h
    · cases h
  · rename_i f first captured ho
    split at h
    · rename_i l h1 h2
      exact ⟨_, h, sound_makeFunc ho h1 h2⟩
    · cases h
  · rename_i T ho
    split at h
    · exact ⟨_, h, sound_makeMap ho⟩
    · cases h
  · rename_i T m x y ho
    split at h
    · rename_i K E b id p q hT hm hx hy
      split at h
      · rename_i l hK hb
        exact ⟨_, h, sound_put (m := 0) (x := 0) (y := 0) (.inl ho) (hti _ _ hT) (hti _ _ hK) hm hx hy hb⟩
      · cases h
    · cases h
  · rename_i T m x y ho
    split at h
    · rename_i K E b id p q hT hm hx hy
      split at h
      · rename_i l hK hb
        exact ⟨_, h, sound_put (m := 0) (x := 0) (y := 0) (.inr ho) (hti _ _ hT) (hti _ _ hK) hm hx hy hb⟩
      · cases h
    · cases h
  · rename_i T m x ho
    split at h
    · rename_i K E b id p hT hm hx
      split at h
      · rename_i nn own l hK hE hb
        exact ⟨_, h, sound_lookup ho (hti _ _ hT) (hti _ _ hK) (hti _ _ hE) (by simp) hm hx (fun n w R ρ S a v hI hv => lookup_sl hb n w R ρ S a v hI hv)⟩
      · cases h
    · rename_i K E b p hT hm hx
      split at h
      · rename_i hK hE
        exact ⟨_, h, sound_lookup ho (hti _ _ hT) (hti _ _ hK) (hti _ _ hE) (by simp) hm hx (fun n w R ρ S a v hI hv => .inl ⟨hv.1, rfl⟩)⟩
      · cases h
    · cases h
  · rename_i args tys ho
    split at h
    · rename_i x T hargs htys
      split at h
      · rename_i i hi
        split at h
        · rename_i m hm
          exact ⟨_, h, lenA_sound ho hargs hm htys (hti _ _ hi)⟩
        · cases h
      · cases h
    · cases h
  · rename_i args tys ho
    split at h
    · rename_i x y hargs
      split at h
      · rename_i ka m kb m' hx hy
        exact ⟨_, h, min_sound ho hargs hx hy⟩
      · cases h
    · cases h
  · rename_i args tys ho
    split at h
    · rename_i x y hargs
      split at h
      · rename_i ka m kb m' hx hy
        exact ⟨_, h, max_sound ho hargs hx hy⟩
      · cases h
    · cases h
  · rename_i args tys ho
    split at h
    · rename_i s x T T' hargs htys
      split at h
      · rename_i ty e bytes sa xa hT hs hx
        split at h
        · rename_i i he
          split at h
          · rename_i hTT
            subst hTT
            split at h
            · rename_i xs own ys own' h1 h2
              split at h
              · rename_i hh
                obtain ⟨hc, h⟩ := chk_some h
                exact ⟨_, h, sound_append ho hargs htys (hti _ _ hT) (hti _ _ he) hs hx rfl (asRow_unk h1) (fun n w R ρ S a u hI hu => asRow_sound hI h1 hu) h2 hh.1 hh.2 (by simpa using hc) (fun k hk => (List.mem_append.1 hk).elim (asRow_lt hlt h1 k) (asSrc_lt hlt h2 k))⟩
              · cases h
            · split at h
              · rename_i xs own ys own' h1 h2
                split at h
                · rename_i hh
                  obtain ⟨hc, h⟩ := chk_some h
                  exact ⟨_, h, sound_append ho hargs htys (hti _ _ hT) (hti _ _ he) hs hx (Ty.ro_size _) (asRowR_unk h1) (fun n w R ρ S a u hI hu => asRowR_sound hI h1 hu) h2 hh.1 hh.2 (by simpa using hc) (fun k hk => (List.mem_append.1 hk).elim (asRowR_lt hlt h1 k) (asSrc_lt hlt h2 k))⟩
                · cases h
              · cases h
          · cases h
        · cases h
      · cases h
    · cases h
  · cases h

end Go.Eng
