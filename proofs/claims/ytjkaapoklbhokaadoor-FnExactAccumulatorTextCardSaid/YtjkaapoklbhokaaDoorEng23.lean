/- The engine, part 23: the arguments of a law as data; a law whose contract is known. Conditions: none. -/
import Derived.Test.YtjkaapoklbhokaaDoorEng22
import Derived.ProofKit
import Derived.Deep.Slices
import Derived.Below
set_option linter.all false
namespace Go.Eng
open Go.RowKit Go.WideShapes Go.ChangeShapes Go.Deep

variable {H : Type} {enc : TypeId × Value → H} {P : Program} {w w' : World} {base : Nat} {spare : Nat → Bool} {held : Bool} {r : Reach}

def fldB (P : Program) (g : TypeId → Ty → Bool) : List Field → Nat → Ty → Bool
  | [], _, _ => false
  | [f], off, t => decide (f.offset = off) && decide (P.cellsOf f.type = t.size) && g f.type t
  | f :: f2 :: fs, off, t => match t with
    | .pair a b => decide (f.offset = off) && decide (P.cellsOf f.type = a.size) && g f.type a && fldB P g (f2 :: fs) (off + a.size) b
    | _ => false

/-- The type T holds the data t, nothing of it owned. -/
def tyB (P : Program) : Nat → TypeId → Ty → Bool
  | 0, _, _ => false
  | n + 1, T, t => match P.underlying T with
    | some (.int k) => decide (t = .int k)
    | some .bool => decide (t = .bool)
    | some .string => decide (t = .str)
    | some (.slice e) => match t with
      | .row false e' u => decide (e' = e) && decide (P.cellsOf e = u.size) && tyB P n e u
      | _ => false
    | some (.struct fs) => decide (P.cellsOf T = t.size) && fldB P (tyB P n) fs.toList 0 t
    | _ => false

/-- The data fit into their types. -/
def wf : (t : Ty) → t.den → Prop
  | .int k, x => (Lit.int k x).wf = true
  | .bool, _ => True
  | .str, x => x.size ≤ maxLen
  | .pair a b, x => wf a x.1 ∧ wf b x.2
  | .row _ _ t, xs => List.length (α := t.den) xs ≤ maxLen ∧ ∀ x ∈ (xs : List t.den), wf t x
  | .map _, _ => True

/-- Blocks that are there. -/
def there (w : World) (b : Nat) : Prop := b < w.heap.size

theorem flds_of_trod {g : TypeId → Ty → Bool} {cs : List Value} {fuel : Nat}
    (hg : ∀ (T : TypeId) (t : Ty) (cs : List Value) (y : DataW H × List MemPlace), g T t = true → DataW.trod enc P w base spare held fuel T cs = some y → ∃ x, rep w (there w) t x cs [] ∧ wf t x) :
    ∀ (fs : List Field) (off : Nat) (t : Ty) (xs : List (DataW H × List MemPlace)), fldB P g fs off t = true → off + t.size = cs.length → fs.length = xs.length →
      (∀ (i : Nat) (f : Field), fs[i]? = some f → DataW.trod enc P w base spare held fuel f.type ((cs.drop f.offset).take (P.cellsOf f.type)) = xs[i]?) → ∃ x, rep w (there w) t x (cs.drop off) [] ∧ wf t x
  | [], _, _, _, h, _, _, _ => by simp [fldB] at h
  | [f], off, t, xs, h, hl, hx, hf => by
    simp only [fldB, Bool.and_eq_true, decide_eq_true_eq] at h
    obtain ⟨⟨h1, h2⟩, h3⟩ := h
    match xs, hx with
    | [y], _ =>
      have h4 := hf 0 f rfl
      rw [h1, h2] at h4
      obtain ⟨x, hr, hw⟩ := hg _ _ _ _ h3 h4
      rw [List.take_of_length_le (by rw [List.length_drop]; omega)] at hr
      exact ⟨x, hr, hw⟩
  | f :: f2 :: fs, off, t, xs, h, hl, hx, hf => by
    match t with
    | .pair a b =>
      simp only [fldB, Bool.and_eq_true, decide_eq_true_eq] at h
      obtain ⟨⟨⟨h1, h2⟩, h3⟩, h4⟩ := h
      match xs, hx with
      | y :: xs, hx =>
        have h5 := hf 0 f rfl
        rw [h1, h2] at h5
        obtain ⟨x1, hr1, hw1⟩ := hg _ _ _ _ h3 h5
        obtain ⟨x2, hr2, hw2⟩ := flds_of_trod (cs := cs) hg (f2 :: fs) (off + a.size) b xs h4 (by simp only [Ty.size] at hl; omega) (by simpa using hx) fun i f' hi => by
          have := hf (i + 1) f' (by simpa using hi)
          simpa using this
        refine ⟨(x1, x2), ⟨_, _, [], [], ?_, rfl, hr1, hr2⟩, hw1, hw2⟩
        rw [← List.drop_drop, List.take_append_drop]
    | .int _ => simp [fldB] at h
    | .bool => simp [fldB] at h
    | .str => simp [fldB] at h
    | .row _ _ _ => simp [fldB] at h
    | .map _ => simp [fldB] at h

theorem rep_of_trod : ∀ (n : Nat) (T : TypeId) (t : Ty) (fuel : Nat) (cs : List Value) (y : DataW H × List MemPlace), tyB P n T t = true → DataW.trod enc P w base spare held fuel T cs = some y → ∃ x, rep w (there w) t x cs [] ∧ wf t x
  | 0, _, _, _, _, _, h, _ => by simp [tyB] at h
  | n + 1, T, t, fuel, cs, y, h, hy => by
    simp only [tyB] at h
    split at h
    · rename_i k hk
      simp only [decide_eq_true_eq] at h
      subst h
      obtain ⟨m, h1, _, h2⟩ := DataW.trod_int hk hy
      exact ⟨m, ⟨h1, rfl⟩, h2⟩
    · rename_i hk
      simp only [decide_eq_true_eq] at h
      subst h
      obtain ⟨b, h1, _⟩ := DataW.trod_bool hk hy
      exact ⟨b, ⟨h1, rfl⟩, trivial⟩
    · rename_i hk
      simp only [decide_eq_true_eq] at h
      subst h
      obtain ⟨s, h1, _, h2⟩ := DataW.trod_string hk hy
      exact ⟨s, ⟨h1, rfl⟩, h2⟩
    · rename_i e he
      split at h
      · rename_i e' u
        simp only [Bool.and_eq_true, decide_eq_true_eq] at h
        obtain ⟨⟨h1, h2⟩, h3⟩ := h
        subst h1
        rcases open_slice he hy with ⟨hcs, _⟩ | ⟨a, len, cap, m, fu, D, Pl, hcs, _, hl, hm, hmm, _, hi⟩
        · subst hcs
          exact ⟨[], ⟨_, [], [], rfl, ⟨rfl, rfl⟩, ⟨none, 0, rfl, fun h => absurd h (by simp)⟩, rfl⟩, by simp, by simp⟩
        · subst hcs
          have hlm : len ≤ m := by rw [hmm]; split <;> omega
          have key : ∀ j, j ≤ len → ∃ (xs : List u.den) (flat : List Value), List.length (α := u.den) xs = j ∧ elemsR (rep w (there w) u) xs flat [] ∧ (∀ x ∈ (xs : List u.den), wf u x) ∧ flat.length = j * u.size ∧ ∀ (i : Nat) (v : Value), flat[i]? = some v → w.cell? (a.add i) = some v := by
            intro j
            induction j with
            | zero => exact fun _ => ⟨[], [], rfl, ⟨rfl, rfl⟩, by simp, by simp, by simp⟩
            | succ j ih =>
              intro hj
              obtain ⟨xs, flat, e1, e2, e3, e4, e5⟩ := ih (by omega)
              obtain ⟨cs', hc, ht⟩ := hi j (by omega)
              obtain ⟨x, hr, hw⟩ := rep_of_trod n e' u fu cs' _ h3 ht
              obtain ⟨_, hcl, hat⟩ := World.cells?_some hc
              rw [h2] at hcl hat
              refine ⟨xs ++ [x], flat ++ cs', by simp [e1], elemsR_app.2 ⟨flat, cs', [], [], rfl, rfl, e2, elemsR_one.2 hr⟩, ?_, ?_, ?_⟩
              · intro z hz
                rcases List.mem_append.1 hz with hz | hz
                · exact e3 z hz
                · rw [List.mem_singleton] at hz; subst hz; exact hw
              · rw [List.length_append, e4, hcl, Nat.add_mul]; omega
              · intro i v hv
                rw [List.getElem?_append] at hv
                split at hv
                · exact e5 i v hv
                · rename_i hge
                  have hlt : i - flat.length < cs'.length := (List.getElem?_eq_some_iff.1 hv).1
                  have := hat (i - flat.length) (by omega)
                  rw [hv, Go.Deep.add_add] at this
                  rw [e4] at this
                  rw [show j * u.size + (i - j * u.size) = i from by omega] at this
                  exact this
          obtain ⟨xs, flat, e1, e2, e3, e4, e5⟩ := key len (Nat.le_refl _)
          refine ⟨xs, ⟨_, flat, [], rfl, e2, ?_, rfl⟩, by rw [e1]; omega, e3⟩
          rw [e1]
          refine ⟨some a, cap, rfl, fun hpos => ⟨a, rfl, ?_, e5⟩⟩
          have hz : 0 < flat.length := by rw [e4]; exact Nat.mul_pos hpos u.size_pos
          have := e5 0 _ (List.getElem?_eq_getElem hz)
          rw [Addr.add_zero'] at this
          unfold there
          rcases Nat.lt_or_ge a.block w.heap.size with h' | h'
          · exact ⟨h', by omega⟩
          · simp [World.cell?, Array.getElem?_eq_none h'] at this
      · cases h
    · rename_i fs hs
      simp only [Bool.and_eq_true, decide_eq_true_eq] at h
      obtain ⟨h1, h2⟩ := h
      obtain ⟨xs, m, _, _, hlen, hxl, hf⟩ := DataW.trod_struct hs hy
      obtain ⟨x, hr, hw⟩ := flds_of_trod (cs := cs) (fuel := m) (fun T t cs y hg ht => rep_of_trod n T t m cs y hg ht) fs.toList 0 t xs h2 (by omega) (by simp [hxl]) (fun i f hi => hf i f (by simpa using hi))
      exact ⟨x, by simpa using hr, hw⟩
    · cases h

end Go.Eng
