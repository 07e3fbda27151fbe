/- The engine, part 13: a call of a function whose contract is known does in the model what part 12 says. Conditions: the contract holds. -/
import Derived.Test.YtjkaapoklbhokaaDoorEng12
set_option linter.all false
namespace Go.Eng
open Go.RowKit

variable {P : Program} {ti : Nat → Option TI}
variable {n : Nat} {w w' : World} {R R' : Nat → Prop} {sl : Nat → AV} {bk : Nat → Blk} {ρ ρ' : Rho} {S S' : Nat → List Nat} {a : Act} {e : Eff} {v : Value} {o : Oper} {nx : Nat}

theorem lent_mono {l l' : List Nat} (h : ∀ i ∈ l, i ∈ l') : ∀ b, lent R S l b → lent R S l' b := fun _ hb => hb.imp id fun ⟨i, hi, hib⟩ => ⟨i, h i hi, hib⟩

theorem valRep_mono (hRR : ∀ b, R b → R' b) {agg : Bool} {t : Ty} {x : t.den} {T : List Nat} (h : valRep w R agg t x v T) : valRep w R' agg t x v T := by
  obtain ⟨cs, h1, h2⟩ := h
  exact ⟨cs, rep_keep (fun _ _ => rfl) hRR (fun _ _ => rfl) h1, h2⟩

theorem argsRep_mono (hRR : ∀ b, R b → R' b) : ∀ {ps : List Par} {x : HL (argTys ps)} {vs : List Value} {T : List Nat}, argsRep w R ps x vs T → argsRep w R' ps x vs T
  | [], _, _, _, h => h
  | .val _ _ :: _, _, _, _, ⟨v, vs', S1, S2, h1, h2, h3, h4⟩ => ⟨v, vs', S1, S2, h1, h2, valRep_mono hRR h3, argsRep_mono hRR h4⟩
  | .mut _ _ :: _, _, _, _, ⟨v, vs', S1, S2, h1, h2, h3, h4⟩ => ⟨v, vs', S1, S2, h1, h2, valRep_mono hRR h3, argsRep_mono hRR h4⟩
  | .ref _ :: _, _, _, _, ⟨v, vs', h1, ⟨ad, cs, h2, h3, h4, h5⟩, h6⟩ => ⟨v, vs', h1, ⟨ad, cs, h2, rep_keep (fun _ _ => rfl) hRR (fun _ _ => rfl) h3, hRR _ h4, h5⟩, argsRep_mono hRR h6⟩
  | .refm _ _ _ :: _, _, _, _, ⟨v, vs', S1, S2, h1, h2, ⟨g, cs, T1, h3, h4, h5, h6⟩, h7⟩ => ⟨v, vs', S1, S2, h1, h2, ⟨g, cs, T1, h3, h4, h5, rep_keep (fun _ _ => rfl) hRR (fun _ _ => rfl) h6⟩, argsRep_mono hRR h7⟩
  | .fn _ :: _, _, _, _, ⟨vs', h1, h2⟩ => ⟨vs', h1, argsRep_mono hRR h2⟩

theorem val_of (hb : ∀ i, blkRep w R ρ (ρ i) (S i) (bk i)) {agg b : Bool} {t : Ty} {cs : List At} {x : t.den} {own ro : List Nat} (hc : b = agg ∧ (b = true ∨ cs.all At.known = true)) (hr : reify bk t cs = some (x, own, ro)) (hv : isAV ρ (.comp b cs) v) :
    (∃ us, All2 (isAt ρ) cs us ∧ match agg with | true => v = .agg (List.toArray us) | false => us = [v]) ∧ valRep w (lent R S ro) agg t x v (own.flatMap S) := by
  obtain ⟨rfl, hk⟩ := hc
  rcases hv with ⟨h1, h2⟩ | hv
  · subst h1; subst h2
    simp [At.known] at hk
  · cases b
    · obtain ⟨c, h1, h2⟩ := hv
      have h1' : cs = [c] := h1
      subst h1'
      exact ⟨⟨[v], ⟨h2, trivial⟩, rfl⟩, [v], reify_sound hb hr ⟨h2, trivial⟩, rfl⟩
    · obtain ⟨us, h1, h2⟩ := hv
      exact ⟨⟨us, h2, h1⟩, us, reify_sound hb hr h2, h1⟩

theorem sub_rep : ∀ {t : Ty} {x : t.den} {cs : List Value} {j : Nat} {u : Ty} {y : u.den}, t.ro = t → subDen t x j u = some y → rep w R t x cs [] → j + u.size ≤ cs.length ∧ rep w R u y ((cs.drop j).take u.size) []
  | t, x, cs, 0, u, y, ht, h, hr => by
    unfold subDen at h
    split at h
    · rename_i htu
      subst htu
      simp only [Option.some.injEq] at h
      subst h
      have hl := rep_len hr
      exact ⟨by omega, by rw [List.drop_zero, List.take_of_length_le (by omega)]; exact hr⟩
    · split at h
      · rename_i a b x' _
        simp only [Ty.ro, Ty.pair.injEq] at ht
        obtain ⟨c1, c2, S1, S2, h1, h2, h3, h4⟩ := hr
        obtain ⟨rfl, rfl⟩ := List.append_eq_nil_iff.1 h2.symm
        obtain ⟨p1, p2⟩ := sub_rep ht.1 h h3
        subst h1
        refine ⟨by rw [List.length_append]; omega, ?_⟩
        rw [List.drop_zero] at p2 ⊢
        rw [List.take_append_of_le_length (by omega)]
        exact p2
      · cases h
  | .pair a b, x, cs, j + 1, u, y, ht, h, hr => by
    simp only [Ty.ro, Ty.pair.injEq] at ht
    obtain ⟨c1, c2, S1, S2, h1, h2, h3, h4⟩ := hr
    obtain ⟨rfl, rfl⟩ := List.append_eq_nil_iff.1 h2.symm
    have hl1 := rep_len h3
    unfold subDen at h
    subst h1
    split at h
    · obtain ⟨p1, p2⟩ := sub_rep ht.1 h h3
      refine ⟨by rw [List.length_append]; omega, ?_⟩
      rw [List.drop_append_of_le_length (by omega), List.take_append_of_le_length (by rw [List.length_drop]; omega)]
      exact p2
    · obtain ⟨p1, p2⟩ := sub_rep ht.2 h h4
      refine ⟨by rw [List.length_append]; omega, ?_⟩
      rw [List.drop_append, List.drop_eq_nil_of_le (by omega), List.nil_append, hl1]
      exact p2
  | .int _, _, _, _ + 1, _, _, _, h, _ => by simp [subDen] at h
  | .bool, _, _, _ + 1, _, _, _, h, _ => by simp [subDen] at h
  | .str, _, _, _ + 1, _, _, _, h, _ => by simp [subDen] at h
  | .row _ _ _, _, _, _ + 1, _, _, _, h, _ => by simp [subDen] at h
  | .map _, _, _, _ + 1, _, _, _, h, _ => by simp [subDen] at h

theorem Ty.ro_ro : ∀ t : Ty, t.ro.ro = t.ro
  | .int _ | .bool | .str | .map _ => rfl
  | .pair a b => by simp only [Ty.ro, Ty.ro_ro a, Ty.ro_ro b]
  | .row _ _ t => by simp only [Ty.ro, Ty.ro_ro t]

theorem elDen_rep (hRR : ∀ b, R b → R' b) {t' : Ty} {x : t'.den} {cs : List Value} {T : List Nat} {j : Nat} {t : Ty} {y : t.den} (hT : ∀ b ∈ T, R' b) (h : elDen t' x j t = some y) (hr : rep w R t' x cs T) :
    j + t.size ≤ cs.length ∧ rep w R' t y ((cs.drop j).take t.size) [] := by
  unfold elDen at h
  split at h
  · rename_i ht
    have hTi := rep_ro_nil ht hr
    subst hTi
    obtain ⟨p1, p2⟩ := sub_rep ht h hr
    exact ⟨p1, rep_keep (fun _ _ => rfl) hRR (fun _ _ => rfl) p2⟩
  · exact sub_rep (Ty.ro_ro t') h (rep_ro hRR hT hr)

theorem block_add (ad : Addr) (m : Nat) : (ad.add m).block = ad.block := by unfold Addr.add; split <;> rfl

theorem argsA_sound (h : Inv n w R sl bk ρ S a) : ∀ {ps : List Par} {avs : List AV} {vs : List Value} {x : HL (argTys ps)} {taken ro : List Nat}, argsA bk ps avs = some (x, taken, ro) → All2 (isAV ρ) avs vs →
    argsRep w (lent R S ro) ps x vs (taken.flatMap S)
  | [], [], vs, x, taken, ro, ha, hv => by
    simp only [argsA, Option.some.injEq, Prod.mk.injEq] at ha
    obtain ⟨_, rfl, rfl⟩ := ha
    match vs, hv with
    | [], _ => exact ⟨rfl, rfl⟩
  | .val agg t :: ps, .comp b cs :: avs, vs, x, taken, ro, ha, hv => by
    match vs, hv with
    | v :: vs, hv =>
      simp only [argsA] at ha
      split at ha
      · rename_i hc
        split at ha
        · rename_i y own ro1 h1
          split at ha
          · rename_i ys own' ro' h2
            simp only [Option.some.injEq, Prod.mk.injEq] at ha
            obtain ⟨rfl, rfl, rfl⟩ := ha
            have ih := argsA_sound h h2 hv.2
            exact ⟨v, vs, own.flatMap S, own'.flatMap S, rfl, by simp, by rw [hhead_hcons]; exact valRep_mono (lent_mono fun i hi => List.mem_append_left _ hi) (val_of h.blks ⟨hc.1, hc.2.2⟩ h1 hv.1).2,
              by rw [htail_hcons]; exact argsRep_mono (lent_mono fun i hi => List.mem_append_right _ hi) ih⟩
          · cases ha
        · cases ha
      · cases ha
  | .mut agg t :: ps, .comp b cs :: avs, vs, x, taken, ro, ha, hv => by
    match vs, hv with
    | v :: vs, hv =>
      simp only [argsA] at ha
      split at ha
      · rename_i hc
        split at ha
        · rename_i y own ro1 h1
          split at ha
          · rename_i ys own' ro' h2
            simp only [Option.some.injEq, Prod.mk.injEq] at ha
            obtain ⟨rfl, rfl, rfl⟩ := ha
            have ih := argsA_sound h h2 hv.2
            exact ⟨v, vs, own.flatMap S, own'.flatMap S, rfl, by simp, by rw [hhead_hcons]; exact valRep_mono (lent_mono fun i hi => List.mem_append_left _ hi) (val_of h.blks ⟨hc.1, hc.2.2.1⟩ h1 hv.1).2,
              by rw [htail_hcons]; exact argsRep_mono (lent_mono fun i hi => List.mem_append_right _ hi) ih⟩
          · cases ha
        · cases ha
      · cases ha
  | .ref t :: ps, .comp false [.ptr id off] :: avs, vs, x, taken, ro, ha, hv => by
    match vs, hv with
    | v :: vs, hv =>
      simp only [argsA] at ha
      split at ha
      · rename_i cs T0 hb
        split at ha
        · rename_i hl
          split at ha
          · rename_i y ro1 h1
            split at ha
            · rename_i ys own' ro' h2
              simp only [Option.some.injEq, Prod.mk.injEq] at ha
              obtain ⟨rfl, rfl, rfl⟩ := ha
              have ih := argsA_sound h h2 hv.2
              obtain ⟨g, e1, e2⟩ := isAV_one (by simp) hv.1
              have hb' := h.blks id
              rw [hb] at hb'
              obtain ⟨g', us, e3, e4, e5, e6⟩ := hb'
              rw [e1] at e3
              simp only [Option.some.injEq, Value.pointer.injEq, Addr.mk.injEq, and_true] at e3
              subst e3
              have hr := reify_sound h.blks h1 ((e6.drop off).take t.size)
              refine ⟨v, vs, rfl, ?_, by rw [htail_hcons]; exact argsRep_mono (lent_mono fun i hi => by simp [hi]) ih⟩
              rw [hhead_hcons]
              refine ⟨⟨g, off, none⟩, _, e2, rep_keep (fun _ _ => rfl) (lent_mono fun i hi => by simp [hi]) (fun _ _ => rfl) hr, .inr ⟨id, by simp, by rw [e4]; simp⟩, fun j u hu => ?_⟩
              rw [Addr.add_lit, cell_of_row w g _ _ _ _ e5]
              rw [List.getElem?_take] at hu
              split at hu
              · rw [List.getElem?_drop] at hu; simpa using hu
              · cases hu
            · cases ha
          · cases ha
        · cases ha
      · cases ha
  | .ref t :: ps, .comp false [.eptr id i sz j] :: avs, vs, x, taken, ro, ha, hv => by
    match vs, hv with
    | v :: vs, hv =>
      simp only [argsA] at ha
      split at ha
      · rename_i own e t' xs' hb
        split at ha
        · rename_i hh
          split at ha
          · rename_i y h1
            split at ha
            · rename_i ys own' ro' h2
              simp only [Option.some.injEq, Prod.mk.injEq] at ha
              obtain ⟨rfl, rfl, rfl⟩ := ha
              have ih := argsA_sound h h2 hv.2
              obtain ⟨ad, m, c, e1, e2, e3⟩ := isAV_one (by simp) hv.1
              have hb' := h.blks id
              rw [hb] at hb'
              obtain ⟨u, e4, e5⟩ := hb'
              rw [e1, Option.some.injEq] at e4
              obtain ⟨A, c', hu⟩ := row_form e5
              rw [← e4] at hu
              simp only [Value.slice.injEq] at hu
              have hlt : i < List.length (α := t'.den) xs' := by rw [← hu.2.1]; exact e2
              obtain ⟨ad', c'', cs, Ti, hu2, hr, hTin, hcell⟩ := row_elem e5 hlt
              rw [← e4] at hu2
              simp only [Value.slice.injEq, Option.some.injEq] at hu2
              obtain ⟨rfl, -, -⟩ := hu2
              obtain ⟨p1, p2⟩ := elDen_rep (R' := lent R S (id :: ro')) (fun b hb => .inl hb) (fun b hb => .inr ⟨id, by simp, hTin b hb⟩) h1 hr
              refine ⟨v, vs, rfl, ?_, by rw [htail_hcons]; exact argsRep_mono (lent_mono fun i hi => by simp [hi]) ih⟩
              rw [hhead_hcons]
              have hblock : lent R S (id :: ro') ad.block := by
                obtain ⟨v', flat, Se, q1, q2, q3⟩ := e5
                simp only [List.cons.injEq, and_true] at q1
                subst q1
                subst e4
                cases own
                · obtain ⟨⟨A2, c2, q4, q5⟩, _⟩ := q3
                  simp only [Value.slice.injEq] at q4
                  obtain ⟨ad2, q6, q7, _⟩ := q5 (by omega)
                  rw [q6] at q4
                  simp only [Option.some.injEq] at q4
                  rw [q4.1]; exact .inl q7.1
                · refine .inr ⟨id, by simp, ?_⟩
                  rw [q3.2]; simp [Value.ownBlock]
              refine ⟨ad.add (i * sz + j), _, e3, p2, by rw [block_add]; exact hblock, fun k u hu => ?_⟩
              rw [List.getElem?_take] at hu
              split at hu
              · rw [List.getElem?_drop] at hu
                rw [hh, Go.Deep.add_add, Nat.add_assoc]
                exact hcell _ u hu
              · cases hu
            · cases ha
          · cases ha
        · cases ha
      · cases ha
  | .refm t T off :: ps, .comp false [.ptr id o] :: avs, vs, x, taken, ro, ha, hv => by
    match vs, hv with
    | v :: vs, hv =>
      simp only [argsA] at ha
      split at ha
      · rename_i cs T0 hb
        split at ha
        · rename_i hT
          obtain ⟨hT, ho⟩ := hT
          subst hT; subst ho
          split at ha
          · rename_i y own ro1 h1
            split at ha
            · rename_i ys own' ro' h2
              simp only [Option.some.injEq, Prod.mk.injEq] at ha
              obtain ⟨rfl, rfl, rfl⟩ := ha
              have ih := argsA_sound h h2 hv.2
              obtain ⟨g, e1, e2⟩ := isAV_one (by simp) hv.1
              have hb' := h.blks id
              rw [hb] at hb'
              obtain ⟨g', us, e3, e4, e5, e6⟩ := hb'
              rw [e1] at e3
              simp only [Option.some.injEq, Value.pointer.injEq, Addr.mk.injEq, and_true] at e3
              subst e3
              have hr := reify_sound h.blks h1 e6
              refine ⟨v, vs, g :: own.flatMap S, own'.flatMap S, rfl, by simp [e4], ?_, by rw [htail_hcons]; exact argsRep_mono (lent_mono fun i hi => List.mem_append_right _ hi) ih⟩
              rw [hhead_hcons]
              exact ⟨g, us, own.flatMap S, e2, rfl, e5, rep_keep (fun _ _ => rfl) (lent_mono fun i hi => List.mem_append_left _ hi) (fun _ _ => rfl) hr⟩
            · cases ha
          · cases ha
        · cases ha
      · cases ha
  | .fn f :: ps, .comp false [.fn g] :: avs, vs, x, taken, ro, ha, hv => by
    match vs, hv with
    | v :: vs, hv =>
      simp only [argsA] at ha
      split at ha
      · rename_i hh
        have ih := argsA_sound h ha hv.2
        have e1 : v = _ := isAV_one (by simp) hv.1
        subst hh
        exact ⟨vs, by rw [e1], ih⟩
      · cases ha

end Go.Eng
