/- slices.SortFunc at rows of rows of the caller's own: its contract. -/
import Derived.Test.YtipdgkohfmpilaaQf
namespace Go.Proofs.Ytipdgkohfmpilaa
open Go.RowKit Go.Shelf Go.Sort
set_option linter.unusedVariables false
set_option linter.unusedSimpArgs false
set_option maxRecDepth 100000

theorem I_getS {r : List Int} {j : Nat} (hj : j < r.length) : (I r)[j]? = some (.int .i64 (r.getD j 0)) := by
  rw [I, List.getElem?_map, List.getD_eq_getElem?_getD, List.getElem?_eq_getElem hj]; rfl
set_option maxHeartbeats 1000000 in
theorem sortF_spec (t : List (List Int)) (h1 : 0 < t.length) (hN : t.length ≤ 1048576) (hr : ∀ r ∈ t, 0 < r.length ∧ r.length ≤ 1048576) :
    SpecM Try.prog 22 [.own 0, .fn 23 []] [.rows 39 2 (II t)] (.tup []) [some (.rows 39 2 (II (t.mergeSort bfe)))] := by
  refine ⟨Try.call22, Nat.le_of_ble_eq_true rfl, fun w ι fp ys hob hdis hys => ?_⟩
  simp only [LRels, LRel] at hys
  obtain ⟨y, r, rfl, hy, y2, r2, rfl, ⟨cs, rfl, rfl⟩, rfl⟩ := hys
  obtain ⟨v, hs, g1, g2, g3, g4, g5⟩ := hob 0 _ rfl
  rw [hy] at g1
  simp only [Option.some.injEq] at g1
  subst g1
  have hl := g4.length
  rw [II_len] at hl
  rcases g2.2 with ⟨_, h0⟩ | ⟨g, cap, cur, rfl, hb, hgc, hnc, hcm, hcs, htake⟩
  · omega
  have hbk : g < w.heap.size := (g2.lt g rfl).2
  have hrow : ∀ i, i < t.length → ∃ b c, hs.getD i nilV = .slice (some ⟨b, 0, none⟩) (t.getD i []).length c ∧ 0 < (t.getD i []).length ∧ (t.getD i []).length ≤ 1048576 ∧ b ≠ g ∧ b < w.heap.size ∧ ∀ j, j < (t.getD i []).length → w.cell? ⟨b, 0 + j, none⟩ = some (.int .i64 ((t.getD i []).getD j 0)) := by
    intro i hi
    have hm : t.getD i [] ∈ t := by rw [List.getD_eq_getElem?_getD, List.getElem?_eq_getElem hi, Option.getD_some]; exact List.getElem_mem _
    obtain ⟨hr1, hr2⟩ := hr _ hm
    have hy2 : hs[i]? = some (hs.getD i nilV) := by rw [List.getD_eq_getElem?_getD, List.getElem?_eq_getElem (by omega), Option.getD_some]
    obtain ⟨k1, k2, _⟩ := g4.at_ i hy2
    rw [II_get] at k1
    obtain ⟨b, c, e, _⟩ := own_cell k1 (i := 0) (by rw [I_len]; exact hr1)
    rw [e] at k1 k2
    rw [I_len] at e
    refine ⟨b, c, e, hr1, hr2, fun q => ?_, (k1.lt b rfl).2, fun j hj => ?_⟩
    · have := (k2 b rfl).2
      rw [q] at this
      exact this rfl
    · have := k1.cells (g := b) rfl j (.int .i64 ((t.getD i []).getD j 0)) (I_getS hj)
      rw [add0] at this
      rw [Nat.zero_add]
      exact this
  have hmod : ∀ i, i % t.length < t.length := fun i => Nat.mod_lt _ h1
  have hds : (List.range t.length).toArray.size = t.length := by simp
  have hsort := Any.slices_SortFunc laysQ (fun i => hs.getD (i % t.length) nilV) (fun i => by
      obtain ⟨b, c, e, _⟩ := hrow _ (hmod i)
      show (hs.getD (i % t.length) nilV).oneCell' = true
      rw [e]; rfl) (fun i j => cmpL (t.getD (i % t.length) []) (t.getD (j % t.length) [])) (rowOrd t t.length) 23 #[] g 0 cap (List.range t.length).toArray w Try.call23 (fun m os dk hdk x y => by
      obtain ⟨b1, c1, e1, p1, l1, n1, s1, q1⟩ := hrow _ (hmod x)
      obtain ⟨b2, c2, e2, p2, l2, n2, s2, q2⟩ := hrow _ (hmod y)
      have hc := walk_closure b1 0 b2 0 _ _ c1 c2 (t.getD (x % t.length) []) (t.getD (y % t.length) []) (sortWorld (fun i => hs.getD (i % t.length) nilV) w g 0 m dk os) rfl rfl l1 l2 (fun j hj => by rw [World.cell?_of_block (sw_other n1 s1)]; exact q1 j hj) (fun j hj => by rw [World.cell?_of_block (sw_other n2 s2)]; exact q2 j hj)
      simp only [e1, e2]
      refine hc.mono ?_
      rintro e w' ⟨rfl, rfl⟩
      exact ⟨rfl, 0, #[], by simp [World.drewN]⟩) (fun j hj => by
      rw [hds] at hj
      have hy2 : hs[j]? = some (hs.getD j nilV) := by rw [List.getD_eq_getElem?_getD, List.getElem?_eq_getElem (by omega), Option.getD_some]
      have hj2 : (List.range t.length).toArray[j]! = j := by rw [getElem!_pos _ j (by simpa using hj)]; simp
      rw [hj2]
      dsimp only
      rw [Nat.mod_eq_of_lt hj]
      have a1 := g2.cells (g := g) rfl j _ hy2
      have a2 := g2.frozenAt j
      rw [add0] at a1
      rw [Nat.zero_add]
      exact ⟨a1, by simpa using a2⟩) hbk (by rw [hds]; omega)
  have e5 : rhoQ.f 6 = 22 := rfl
  rw [e5, hds] at hsort
  rw [hl]
  refine hsort.mono ?_
  rintro e w' ⟨rfl, d', n', os, ⟨ds, _, dp⟩, dsrt, rfl⟩
  have hsz : d'.size = t.length := ds.trans hds
  have hp : d'.toList.Perm (List.range t.length) := by
    have a1 : d'.extract 0 t.length = d' := by rw [← hsz]; exact Array.extract_size
    have a2 : (List.range t.length).toArray.extract 0 t.length = (List.range t.length).toArray := by
      have := Array.extract_size (xs := (List.range t.length).toArray)
      rwa [hds] at this
    rw [a1, a2] at dp
    exact dp
  have hlt : ∀ i ∈ d'.toList, i < t.length := fun i hi => List.mem_range.1 (hp.mem_iff.1 hi)
  have hat : ∀ i, i < t.length → d'[i]! = d'.toList.getD i 0 ∧ d'.toList.getD i 0 < t.length := by
    intro i hi
    have e1 : d'.toList.getD i 0 = d'[i]'(by omega) := by rw [List.getD_eq_getElem?_getD, List.getElem?_eq_getElem (by simpa [hsz] using hi), Option.getD_some, Array.getElem_toList]
    refine ⟨by rw [getElem!_pos d' i (by omega), e1], ?_⟩
    rw [e1]
    exact hlt _ (by rw [← Array.getElem_toList]; exact List.getElem_mem _)
  have hrows := sorted_rows hp (fun i j hij hj => by
    rw [Array.length_toList, hsz] at hj
    have q := dsrt i j (Nat.zero_le _) hij hj
    obtain ⟨a1, a2⟩ := hat i (by omega)
    obtain ⟨b1, b2⟩ := hat j hj
    rw [a1, b1] at q
    have q2 : decide (cmpL (t.getD (d'.toList.getD j 0 % t.length) []) (t.getD (d'.toList.getD i 0 % t.length) []) < 0) = false := q
    rw [cmpL_bfr, Nat.mod_eq_of_lt a2, Nat.mod_eq_of_lt b2] at q2
    exact q2)
  have hII : II (t.mergeSort bfe) = d'.toList.map fun i => (II t).getD i [] := by
    rw [← hrows]
    unfold II
    rw [List.map_map]
    exact List.map_congr_left fun i _ => (II_get t i).symm
  have hcells : d'.toList.map (fun i => hs.getD (i % t.length) nilV) = d'.toList.map fun i => hs.getD i nilV := List.map_congr_left fun i hi => by rw [Nat.mod_eq_of_lt (hlt i hi)]
  have hlen' : (d'.toList.map fun i => hs.getD i nilV).length = hs.length := by rw [List.length_map, Array.length_toList, hsz, hl]
  have hcs1 : cur.size = cap := by rw [hcs, Nat.mul_one]
  rw [hII]
  refine ⟨_, _, ⟨rfl, rfl⟩, _, ι, fp, rfl, ⟨fun i => ?_, fun id oc hi => ?_, fun id id' oc oc' k h1 h2 _ _ => ?_, ⟨rfl, rfl, rfl, ?_, fun k hk hB => sw_other (fun e => hB ⟨0, _, rfl, by rw [e]; exact g3 g rfl⟩) hk⟩, fun k hk => .inr ?_, fun id v h => ?_⟩⟩
  · show LRel _ _ _ (if i = 0 then _ else .junk) _
    split
    · simp only [LRel, LRels]; exact ⟨[], rfl, rfl⟩
    · simp only [LRel]
  · match id with
    | 0 =>
      simp only [osO, List.getElem?_cons_zero, Option.join_some, Option.some.injEq] at hi
      subst hi
      refine ⟨_, d'.toList.map fun i => hs.getD i nilV, hy, ?_, fun k hk => g3 k hk, (g4.perm (n := t.length) (II_len t) hp).keeps fun k hk => sw_other (fun e => hk.2 (by rw [e]; rfl)) (g5 k hk.1).2, fun k hk => ⟨Nat.zero_le _, Nat.lt_of_lt_of_le (g5 k hk).2 ?_⟩⟩
      · refine ⟨by simp, .inr ⟨g, cap, putCells (fun i => hs.getD (i % t.length) nilV) 0 d' cur, by rw [hlen'], hb, sw_self hgc, by rw [hlen']; exact hnc, hcm, by simp [putCells, hcs1], ?_⟩⟩
        rw [hlen', Nat.mul_one, hl, ← hsz, put_take (by omega), hsz]
        exact hcells
      · show w.heap.size ≤ ((w.heap.modify g (onCells (putCells (fun i => hs.getD (i % t.length) nilV) 0 d'))) ++ os).size
        simp
    | id + 1 => simp [osO] at hi
  · match id, id' with
    | 0, 0 => rfl
    | id + 1, _ => simp [osO] at h1
    | 0, id' + 1 => simp [osO] at h2
  · show w.heap.size ≤ ((w.heap.modify g (onCells (putCells (fun i => hs.getD (i % t.length) nilV) 0 d'))) ++ os).size
    simp
  · obtain ⟨id, oc, h2, h3⟩ := hk
    match id with
    | 0 => exact ⟨0, _, rfl, h3⟩
    | id + 1 => simp [osO] at h2
  · simp only at h
    split at h
    · exact h
    · cases h
end Go.Proofs.Ytipdgkohfmpilaa
