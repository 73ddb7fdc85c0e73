/- slices.SortFunc at rows of rows of the caller's own: the kit's contract told as one of this calculus. -/
import Derived.Test.YtipdgkohfmpilaaQa
namespace Go.Proofs.Ytipdgkohfmpilaa
open Go.RowKit Go.Shelf Go.Sort
set_option linter.unusedVariables false
set_option linter.unusedSimpArgs false
set_option maxRecDepth 100000

/-! ### Rows and their headers, side by side -/
def OwnZ (w : World) (base e : Nat) : (Nat → Prop) → List (List Value × Value) → Prop
  | _, [] => True
  | fp, p :: q => w.ownsRow base e 1 p.2 p.1.length p.1 ∧ (∀ k, p.2.ownBlock = some k → fp k) ∧ OwnZ w base e (fun k => fp k ∧ p.2.ownBlock ≠ some k) q
theorem OwnZ.mono {w : World} {base e : Nat} : ∀ {q : List (List Value × Value)} {fp fp' : Nat → Prop}, OwnZ w base e fp q → (∀ k, fp k → fp' k) → OwnZ w base e fp' q
  | [], _, _, _, _ => trivial
  | p :: q, _, _, ⟨h1, h2, h3⟩, hf => ⟨h1, fun k hk => hf k (h2 k hk), h3.mono fun k hk => ⟨hf k hk.1, hk.2⟩⟩
theorem OwnZ.perm {w : World} {base e : Nat} {q q' : List (List Value × Value)} (h : q.Perm q') : ∀ {fp : Nat → Prop}, OwnZ w base e fp q → OwnZ w base e fp q' := by
  induction h with
  | nil => exact fun h => h
  | cons x _ ih => exact fun ⟨h1, h2, h3⟩ => ⟨h1, h2, ih h3⟩
  | swap x y l => exact fun ⟨a1, a2, b1, b2, h⟩ => ⟨b1, fun k hk => (b2 k hk).1, a1, fun k hk => ⟨a2 k hk, fun e => (b2 k e).2 hk⟩, h.mono fun k hk => ⟨⟨hk.1.1, hk.2⟩, hk.1.2⟩⟩
  | trans _ _ ih1 ih2 => exact fun h => ih2 (ih1 h)
theorem ownAll_Z {w : World} {base e : Nat} : ∀ {t : List (List Value)} {hs : List Value} {fp : Nat → Prop}, OwnAll w base e fp t hs → OwnZ w base e fp (t.zip hs)
  | [], _, _, _ => by simp only [List.zip_nil_left, OwnZ]
  | r :: t, _, _, ⟨h, hs', e1, h1, h2, h3⟩ => by subst e1; exact ⟨h1, h2, ownAll_Z h3⟩
theorem ownZ_All {w : World} {base e : Nat} : ∀ {t : List (List Value)} {hs : List Value} {fp : Nat → Prop}, hs.length = t.length → OwnZ w base e fp (t.zip hs) → OwnAll w base e fp t hs
  | [], [], _, _, _ => rfl
  | r :: t, h :: hs, _, hl, ⟨h1, h2, h3⟩ => ⟨h, hs, rfl, h1, h2, ownZ_All (by simpa using hl) h3⟩
  | [], _ :: _, _, hl, _ => by simp at hl
  | _ :: _, [], _, hl, _ => by simp at hl
/-- Rows in another order. -/
theorem OwnAll.perm {w : World} {base e n : Nat} {t : List (List Value)} {hs : List Value} {fp : Nat → Prop} (h : OwnAll w base e fp t hs) (hn : t.length = n) {p : List Nat} (hp : p.Perm (List.range n)) :
    OwnAll w base e fp (p.map fun i => t.getD i []) (p.map fun i => hs.getD i nilV) := by
  have hl := h.length
  refine ownZ_All (by simp) ?_
  rw [List.zip_map']
  refine OwnZ.perm (q := t.zip hs) ?_ (ownAll_Z h)
  have : t.zip hs = (List.range n).map fun i => (t.getD i [], hs.getD i nilV) := by
    refine List.ext_getElem (by simp; omega) fun i h1 h2 => ?_
    simp only [List.length_zip] at h1
    simp only [List.getElem_zip, List.getElem_map, List.getElem_range, List.getD_eq_getElem?_getD]
    rw [List.getElem?_eq_getElem (by omega), List.getElem?_eq_getElem (by omega)]
    rfl
  rw [this]
  exact (hp.map _).symm

/-! ### The world behind the sort -/
theorem sw_other {enc : Nat → Value} {w : World} {g m k : Nat} {d : Array Nat} {os : Array Obj} (hk : k ≠ g) (hl : k < w.heap.size) : (sortWorld enc w g 0 m d os).heap[k]? = w.heap[k]? := by
  show ((w.heap.modify g (onCells (putCells enc 0 d))) ++ os)[k]? = _
  rw [Array.getElem?_append_left (by simpa using hl), Array.getElem?_modify, if_neg (Ne.symm hk)]
theorem sw_self {enc : Nat → Value} {w : World} {g m e : Nat} {d : Array Nat} {os : Array Obj} {cur : Array Value} (hg : w.heap[g]? = some (.cells cur e (0, 0))) : (sortWorld enc w g 0 m d os).heap[g]? = some (.cells (putCells enc 0 d cur) e (0, 0)) := by
  have hl : g < w.heap.size := (Array.getElem?_eq_some_iff.1 hg).1
  show ((w.heap.modify g (onCells (putCells enc 0 d))) ++ os)[g]? = _
  rw [Array.getElem?_append_left (by simpa using hl), Array.getElem?_modify, if_pos rfl, hg]
  rfl
theorem put_take {enc : Nat → Value} {d : Array Nat} {cur : Array Value} (h : d.size ≤ cur.size) : (putCells enc 0 d cur).toList.take d.size = d.toList.map enc := by
  refine List.ext_getElem (by simp [putCells]; omega) fun i h1 h2 => ?_
  simp only [List.length_map, Array.length_toList] at h2
  rw [List.getElem_take, List.getElem_map]
  simp only [putCells, Array.getElem_toList, Array.getElem_mapIdx]
  rw [if_pos ⟨Nat.zero_le _, by omega⟩, Nat.sub_zero, getElem!_pos d i h2]
theorem rowOrd (t : List (List Int)) (n : Nat) : SWO (ltOf fun i j => cmpL (t.getD (i % n) []) (t.getD (j % n) [])) := by
  have hb : ∀ i j, ltOf (fun i j => cmpL (t.getD (i % n) []) (t.getD (j % n) [])) i j = bfr (t.getD (i % n) []) (t.getD (j % n) []) := fun i j => cmpL_bfr _ _
  refine ⟨fun x => by rw [hb]; exact bfr_self _, fun x y z h1 h2 => ?_, fun x y z h1 h2 => ?_⟩
  · rw [hb] at *
    exact bfr_trans h1 h2
  · rw [hb] at *
    cases q : bfr (t.getD (x % n) []) (t.getD (z % n) []) with
    | false => rfl
    | true =>
      rcases bfr_total (t.getD (x % n) []) (t.getD (y % n) []) with h3 | h3 | h3
      · rw [← h3, q] at h2; exact h2
      · rw [h3] at h1; cases h1
      · rw [bfr_trans h3 q] at h2; cases h2
/-- The rows in the order that the sort leaves: the sorted list. -/
theorem sorted_rows {t : List (List Int)} {p : List Nat} (hp : p.Perm (List.range t.length)) (hs : ∀ i j, i < j → j < p.length → bfr (t.getD (p.getD j 0) []) (t.getD (p.getD i 0) []) = false) : p.map (fun i => t.getD i []) = t.mergeSort bfe := by
  have h0 : (List.range t.length).map (fun i => t.getD i []) = t := by
    refine List.ext_getElem (by simp) fun i h1 h2 => ?_
    simp only [List.getElem_map, List.getElem_range, List.getD_eq_getElem?_getD]
    rw [List.getElem?_eq_getElem h2, Option.getD_some]
  have h1 : (p.map fun i => t.getD i []).Perm t := by have := hp.map fun i => t.getD i []; rwa [h0] at this
  refine List.Perm.eq_of_pairwise (fun a b _ _ h3 h4 => bfe_anti h3 h4) ?_ (List.pairwise_mergeSort bfe_trans bfe_total _) (h1.trans (List.mergeSort_perm _ _).symm)
  rw [List.pairwise_iff_getElem]
  intro i j hi hj hij
  simp only [List.length_map] at hi hj
  simp only [List.getElem_map]
  have := bfe_of (hs i j hij hj)
  rwa [List.getD_eq_getElem?_getD (l := p), List.getElem?_eq_getElem hi, Option.getD_some, List.getD_eq_getElem?_getD (l := p), List.getElem?_eq_getElem hj, Option.getD_some] at this
end Go.Proofs.Ytipdgkohfmpilaa
