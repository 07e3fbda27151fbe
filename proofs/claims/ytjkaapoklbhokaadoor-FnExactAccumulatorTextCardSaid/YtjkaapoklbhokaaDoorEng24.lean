/- The engine, part 24: a law whose contract says true, called. Conditions: none. -/
import Derived.Test.YtjkaapoklbhokaaDoorEng23
import Derived.Carry
set_option linter.all false
namespace Go.Eng
open Go.RowKit Go.WideShapes Go.ChangeShapes

variable {H : Type} {enc : TypeId × Value → H} {P : Program} {w w' : World} {base : Nat} {spare : Nat → Bool} {held : Bool} {r : Reach}

def aggB (P : Program) (T : TypeId) : Bool := match P.underlying T with | some (.struct _) => true | _ => false

def parsB (P : Program) : List TypeId → List Par → Bool
  | [], [] => true
  | T :: ts, .val agg t :: ps => tyB P 12 T t && (agg == aggB P T) && parsB P ts ps
  | _, _ => false

def wfArgs : (ps : List Par) → HL (argTys ps) → Prop
  | [], _ => True
  | .val _ t :: ps, x => wf t (hhead t _ x) ∧ wfArgs ps (htail t _ x)
  | .mut _ t :: ps, x => wf t (hhead t _ x) ∧ wfArgs ps (htail t _ x)
  | .ref t :: ps, x => wf t (hhead t _ x) ∧ wfArgs ps (htail t _ x)
  | .refm t _ _ :: ps, x => wf t (hhead t _ x) ∧ wfArgs ps (htail t _ x)
  | .fn _ :: ps, x => wfArgs ps x

theorem val_of_trod {T : TypeId} {t : Ty} {v : Value} {d : DataW H} {p : List MemPlace} (ht : tyB P 12 T t = true) (hok : Value.okWide P w' r base T v) (h : DataW.Trod enc P w 0 spare held T v d p) :
    ∃ x, valRep w (there w) (aggB P T) t x v [] ∧ wf t x := by
  obtain ⟨fuel, hf⟩ := h
  obtain ⟨x, hr, hw⟩ := rep_of_trod 12 T t fuel _ _ ht hf
  refine ⟨x, ⟨_, hr, ?_⟩, hw⟩
  simp only [tyB] at ht
  split at ht
  · rename_i k hk
    obtain ⟨m, rfl⟩ := okWide_int hk hok
    simp [aggB, hk, Value.cells]
  · rename_i hk
    obtain ⟨m, rfl⟩ := okWide_bool hk hok
    simp [aggB, hk, Value.cells]
  · rename_i hk
    obtain ⟨m, rfl⟩ := okWide_string hk hok
    simp [aggB, hk, Value.cells]
  · rename_i e hk
    obtain ⟨m, l, c, rfl⟩ := okWide_slice hk hok
    simp [aggB, hk, Value.cells]
  · rename_i fs hk
    obtain ⟨cs, rfl, _⟩ := okWide_struct hk hok
    simp [aggB, hk, Value.cells]
  · cases ht

theorem args_of_trod : ∀ {ts : List TypeId} {ps : List Par} {vs : List Value} {ds : List (DataW H)} {p : List MemPlace}, parsB P ts ps = true → DataW.TrodAll enc P w 0 spare held ts vs ds p →
    (∀ (j : Nat) t v, ts[j]? = some t → vs[j]? = some v → Value.okWide P w' r base t v) → ∃ x, argsRep w (there w) ps x vs [] ∧ wfArgs ps x
  | [], [], [], [], _, _, _, _ => ⟨(), ⟨rfl, rfl⟩, trivial⟩
  | T :: ts, .val agg t :: ps, v :: vs, d :: ds, p, hp, ⟨p1, p2, h1, h2, _⟩, hok => by
    simp only [parsB, Bool.and_eq_true, beq_iff_eq] at hp
    obtain ⟨⟨h3, h4⟩, h5⟩ := hp
    obtain ⟨x1, hr1, hw1⟩ := val_of_trod h3 (hok 0 T v rfl rfl) h1
    obtain ⟨x2, hr2, hw2⟩ := args_of_trod h5 h2 (fun j t v hj hv => hok (j + 1) t v (by simpa using hj) (by simpa using hv))
    subst h4
    refine ⟨hcons t _ x1 x2, ⟨v, vs, [], [], rfl, rfl, by rw [hhead_hcons]; exact hr1, by rw [htail_hcons]; exact hr2⟩, ?_⟩
    show wf t (hhead t _ (hcons t _ x1 x2)) ∧ wfArgs ps (htail t _ (hcons t _ x1 x2))
    rw [hhead_hcons, htail_hcons]
    exact ⟨hw1, hw2⟩

theorem law_calls {fid : FuncId} {ps : List Par} {F : HL (argTys ps) → Option (HL (resTys [(.val false, .bool)] (outTys ps)))} (hm : Meets P fid ⟨ps, [(.val false, .bool)], F⟩) (hF : ∀ x, wfArgs ps x → ∃ y, F x = some y ∧ hhead .bool _ y = true)
    {ts : List TypeId} {vs : List Value} {ds : List (DataW H)} {p : List MemPlace} (hp : parsB P ts ps = true) (h : DataW.TrodAll enc P w 0 spare held ts vs ds p) (hok : ∀ (j : Nat) t v, ts[j]? = some t → vs[j]? = some v → Value.okWide P w' r base t v) (hgl : Glob w (there w)) :
    Calls P fid vs.toArray w fun e w' => e = .returned (.bool true) ∧ Below w.heap.size w w' := by
  obtain ⟨x, hx, hw⟩ := args_of_trod hp h hok
  obtain ⟨y, hy, hy1⟩ := hF x hw
  refine (hm.calls x y hy w (there w) [] vs hx List.nodup_nil (by simp) (fun b hb => hb) hgl).mono ?_
  rintro e w' ⟨us, R', S1, S2, rfl, ⟨v, vs', T1, T2, rfl, _, ⟨cs, ⟨h1, _⟩, h2⟩, h3, _⟩, _, _, _, hk, _, _⟩
  have h2' : cs = [v] := h2
  subst h2'
  subst h3
  simp only [List.cons.injEq, and_true] at h1
  rw [hy1] at h1
  subst h1
  exact ⟨rfl, hk.os, hk.tape, hk.output, hk.size, fun k hlt => hk.block k hlt (by simp)⟩

theorem trodAll_below (hl : laidOutB P = true) {W W' : World} (hb : Below W.heap.size W W') : ∀ {ts : List TypeId} {vs : List Value} {ds : List (DataW H)} {ps : List MemPlace}, (ts.all fun t => P.readableRec t && decide (t < P.types.size)) = true →
    DataW.TrodAll enc P W 0 (fun _ => true) true ts vs ds ps → (∀ x ∈ ps, x.block < W.heap.size) → DataW.TrodAll enc P W' 0 (fun b => decide (b < W.heap.size)) true ts vs ds ps
  | [], [], [], _, _, h, _ => h
  | T :: ts, v :: vs, d :: ds, ps, ht, ⟨p1, p2, h1, h2, h3⟩, hlt => by
    simp only [List.all_cons, Bool.and_eq_true, decide_eq_true_eq] at ht
    subst h3
    exact ⟨p1, p2, Below.trod hl ht.1.1 ht.1.2 h1 hb (fun x hx => hlt x (List.mem_append_left _ hx)), trodAll_below hl hb ht.2 h2 (fun x hx => hlt x (List.mem_append_right _ hx)), rfl⟩

end Go.Eng
