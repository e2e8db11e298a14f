/- A row of blocks, one of which has got an instruction more. -/
import Derived.Test.YtahblhiolkdnnaaW26
set_option linter.unusedSimpArgs false
set_option linter.unusedVariables false
namespace Go.Proofs.Ytahblhiolkdnnaa
open Go.RowKit
theorem pair_apart {ys : List BlockS} (hp : ys.Pairwise (fun a b => a.hi ≤ b.lo)) {k j : Nat} {y z : BlockS} (hy : ys[k]? = some y) (hz : ys[j]? = some z) (hkj : j ≠ k) : y.hi ≤ z.lo ∨ z.hi ≤ y.lo := by
  obtain ⟨l1, rfl⟩ := List.getElem?_eq_some_iff.1 hy
  obtain ⟨l2, rfl⟩ := List.getElem?_eq_some_iff.1 hz
  rcases Nat.lt_or_gt_of_ne hkj with h | h
  · exact .inr (List.pairwise_iff_getElem.1 hp j k l2 l1 h)
  · exact .inl (List.pairwise_iff_getElem.1 hp k j l1 l2 h)
theorem more_sl {W4 w1 : World} {base g n e0 k n' gg cap : Nat} {So So2 S3 : Nat → Prop} {ys : List BlockS} {i : Ins} {y : BlockS} {vals news : List Value} {own : Option Nat}
    (ho : OwnL W4 base 42 So (.slice (some ⟨g, 0, none⟩) n e0) ys) (hy : ys[k]? = some y) (hp : ys.Pairwise (fun a b => a.hi ≤ b.lo))
    (hrl : RepL W4 So2 y.blk.ins vals) (hn' : y.blk.ins.length = n') (hno : ∀ b, own = some b → ¬ So2 b) (hown : ∀ b, own = some b → So b ∧ y.lo ≤ b ∧ b < y.hi) (hso2 : ∀ b, So2 b → So b ∧ b < W4.heap.size)
    (h1 : w1.ownsRow 0 30 8 (.slice (some ⟨gg, 0, none⟩) (n' + 1) cap) (n' + 1) (vals ++ news)) (hi : Rep.is W4 S3 i news) (hs3 : ∀ b, S3 b → some b ≠ own ∧ b ≠ g ∧ b < W4.heap.size)
    (hgrow : ∀ b, b < W4.heap.size → some b ≠ own → w1.heap[b]? = W4.heap[b]?) (hsz : W4.heap.size ≤ w1.heap.size) (hgg : own = some gg ∨ W4.heap.size ≤ gg) :
    Sl (w1.setCell ⟨g, k * 5, none⟩ (.slice (some ⟨gg, 0, none⟩) (n' + 1) cap)) (fun _ => True) (some ⟨g, 0, none⟩) n e0 ((ys.map (·.blk)).set k ⟨y.blk.ins ++ [i], y.blk.term⟩) := by
  obtain ⟨l1, l2, l3, l4, lg, l5, cur, l6, l7, l8⟩ := ho.form_at
  have hgo : some g ≠ own := fun h => l5 (hown g h.symm).1
  have hggg : gg ≠ g := by
    rcases hgg with h | h
    · rintro rfl; exact hgo h.symm
    · omega
  have hk : k < n := by rw [← l1]; exact (List.getElem?_eq_some_iff.1 hy).1
  have keepB : ∀ b, b < W4.heap.size → some b ≠ own → b ≠ g → (w1.setCell ⟨g, k * 5, none⟩ (.slice (some ⟨gg, 0, none⟩) (n' + 1) cap)).heap[b]? = W4.heap[b]? := fun b hb h1 h2 =>
    (Below.heap_setCell w1 _ _ b h2).trans (hgrow b hb h1)
  have keepG : (w1.setCell ⟨g, k * 5, none⟩ (.slice (some ⟨gg, 0, none⟩) (n' + 1) cap)).heap[g]? = some (.cells (cur.setIfInBounds (k * 5) (.slice (some ⟨gg, 0, none⟩) (n' + 1) cap)) 42 (0, 0)) := by
    show ((w1.heap.modify g _)[g]?) = _
    rw [Array.getElem?_modify, if_pos rfl, hgrow g lg hgo, l6]; rfl
  refine ⟨by simpa using l1, l2, l3, (fun h => by cases h), fun _ => ⟨g, 0, rfl, by simp; omega, trivial, fun j x hx => ?_⟩⟩
  have hj : j < n := by have := (List.getElem?_eq_some_iff.1 hx).1; simp at this; omega
  have hcell : ∀ (us : List Value) (z : BlockS), ys[j]? = some z → (∀ q u, us[q]? = some u → (cur.toList.take (n * 5))[j * 5 + q]? = some u) → ∀ q u, us[q]? = some u → cur[j * 5 + q]? = some u := fun us z _ hc q u hq => by
    have := hc q u hq
    rw [List.getElem?_take] at this
    split at this
    · rw [← Array.getElem?_toList]; exact this
    · cases this
  have hzj : ∃ z, ys[j]? = some z := ⟨_, List.getElem?_eq_getElem (by omega)⟩
  obtain ⟨z, hz⟩ := hzj
  obtain ⟨us, hus, hc⟩ := l8.at_ hz
  have hc' := hcell us z hz hc
  have hls := Rep.len hus
  by_cases hjk : j = k
  · subst hjk
    obtain rfl : y = z := by rw [hy] at hz; exact Option.some.inj hz
    rw [List.getElem?_set_self (by simp; omega)] at hx
    obtain rfl := Option.some.inj hx
    obtain ⟨A, c, rfl, q1, q2, q3, q4, q5⟩ := BlockR.open_ hus
    refine ⟨[.slice (some ⟨gg, 0, none⟩) (n' + 1) cap, .int .i64 y.blk.term.kind, .int .i64 y.blk.term.a, .int .i64 y.blk.term.to0, .int .i64 y.blk.term.to1], Block.mk_ (x := ⟨y.blk.ins ++ [i], y.blk.term⟩) ?_ q2 q3 q4 q5, fun q u hq => ?_⟩
    · have hrl' : RepL (w1.setCell ⟨g, j * 5, none⟩ (.slice (some ⟨gg, 0, none⟩) (n' + 1) cap)) (fun _ => True) (y.blk.ins ++ [i]) (vals ++ news) :=
        ((hrl.keep (by simp; omega) fun b hb hl => keepB b hl (fun h => hno b h.symm hb) (fun h => l5 (h ▸ (hso2 b hb).1))).more fun _ _ _ => trivial).append
          (RepL.single (Rep.more (Rep.keep hi (by simp; omega) fun b hb hl => keepB b hl (hs3 b hb).1 (hs3 b hb).2.1) fun _ _ _ => trivial))
      obtain ⟨_, h1 | ⟨g2, cap2, cur2, e, _, hh, hnc, hcm, hsz2, htake⟩⟩ := h1
      · cases h1.1
      · injection e with e1 e2 e3
        simp only [Option.some.injEq, Addr.mk.injEq, and_true] at e1
        subst e1 e3
        have hh' : (w1.setCell ⟨g, j * 5, none⟩ (.slice (some ⟨gg, 0, none⟩) (n' + 1) cap)).heap[gg]? = some (.cells cur2 30 (0, 0)) := (Below.heap_setCell w1 _ _ gg hggg).trans hh
        refine ⟨by simp [hn'], hnc, hcm, (fun h => by cases h), fun _ => ⟨gg, 0, rfl, (Array.getElem?_eq_some_iff.1 hh').1, trivial, fun p x hp => ?_⟩⟩
        obtain ⟨us, hus, hc⟩ := hrl'.at_ hp
        refine ⟨us, hus, fun q u hq => ?_⟩
        rw [cell_of_row _ gg _ cur2 30 (0, 0) hh']
        have := hc q u hq
        rw [← htake, List.getElem?_take] at this
        split at this
        · simpa using this
        · cases this
    · rw [cell_of_row _ g _ _ 42 (0, 0) keepG]
      have hb := hc' q
      rw [show (0 : Nat) + (j * Rep.size Block + q) = j * 5 + q by simp [show Rep.size Block = 5 from rfl]]
      by_cases hq0 : q = 0
      · subst hq0
        simp at hq; subst hq
        have : cur[j * 5]? ≠ none := by rw [show j * 5 = j * 5 + 0 by omega, hc' 0 _ rfl]; simp
        have hlt : j * 5 < cur.size := by
          rcases Nat.lt_or_ge (j * 5) cur.size with h | h
          · exact h
          · exact absurd (Array.getElem?_eq_none h) this
        simp [hlt]
      · rw [Array.getElem?_setIfInBounds_ne (by omega)]
        refine hb u ?_
        match q, hq0 with
        | q + 1, _ => simpa [Block.r] using hq
  · rw [List.getElem?_set_ne (by omega)] at hx
    simp only [List.getElem?_map, hz, Option.map_some, Option.some.injEq] at hx
    subst hx
    have hus' : Rep.is W4 (fun b => So b ∧ z.lo ≤ b ∧ b < z.hi) z.blk us := BlockR.forget hus
    refine ⟨us, Rep.more (Rep.keep hus' (by simp; omega) fun b hb hl => keepB b hl ?_ (fun h => l5 (h ▸ hb.1))) fun _ _ _ => trivial, fun q u hq => ?_⟩
    · intro h
      have h2 := hown b h.symm
      have := pair_apart hp hy hz hjk
      omega
    · rw [cell_of_row _ g _ _ 42 (0, 0) keepG, Array.getElem?_setIfInBounds_ne ?_]
      · have := hc' q u hq
        rwa [show (0 : Nat) + (j * Rep.size Block + q) = j * 5 + q by simp [show Rep.size Block = 5 from rfl]]
      · have h5 : Rep.size Block = 5 := rfl
        have hq5 : q < 5 := by have := (List.getElem?_eq_some_iff.1 hq).1; have : us.length = 5 := hls; omega
        rw [h5]; omega
theorem pick_in {x : Int} {n : Nat} (h : 0 < n) : 0 ≤ pickI x n ∧ pickI x n < n := by
  unfold pickI
  rw [if_neg (by omega)]
  have h1 := Int.tmod_lt_of_pos x (show (0 : Int) < n by omega)
  have h2 := Int.lt_tmod_of_pos x (show (0 : Int) < n by omega)
  split <;> omega
end Go.Proofs.Ytahblhiolkdnnaa
