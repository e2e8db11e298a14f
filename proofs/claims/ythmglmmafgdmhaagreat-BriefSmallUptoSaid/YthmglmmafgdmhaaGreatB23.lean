/- Briefs as plain data: what is right, what variables are worth, rows of colors, what is kept. -/
import Derived.Test.YthmglmmafgdmhaaGreatTypes23
import Derived.Test.YthmglmmafgdmhaaGreatMp
set_option linter.unusedSimpArgs false
set_option linter.unusedVariables false
namespace Go.Proofs.YthmglmmafgdmhaaGreat
open Go.RowKit

def risingF (last : Int) : List Int → Bool
  | [] => true
  | v :: l => decide (last < v) && (decide (v ≤ 200) && risingF v l)
def outF (a b n : Int) : Bool := decide (n < a) || decide (b < n)
def rightB (b : Brief) : Bool :=
  risingF 0 b.vars && (decide (b.colors.length = b.vars.length) && (decide (b.edge.length = b.vars.length) && (!anyF (outF (-1) 63) b.colors && !anyF (outF 0 1099511627776) b.edge)))
theorem anyF_false {α : Type} {f : α → Bool} : ∀ {l : List α}, anyF f l = false → ∀ x ∈ l, f x = false
  | [], _, x, hx => by simp at hx
  | y :: l, h, x, hx => by
    simp only [anyF, Bool.or_eq_false_iff] at h
    rcases List.mem_cons.1 hx with rfl | hx
    · exact h.1
    · exact anyF_false h.2 x hx
theorem anyF_all {α : Type} {f : α → Bool} : ∀ {l : List α}, (∀ x ∈ l, f x = false) → anyF f l = false
  | [], _ => rfl
  | y :: l, h => by
    simp only [anyF, Bool.or_eq_false_iff]
    exact ⟨h y (by simp), anyF_all fun x hx => h x (by simp [hx])⟩
theorem risingF_mem : ∀ {l : List Int} {a : Int}, risingF a l = true → ∀ v ∈ l, a < v ∧ v ≤ 200
  | [], _, _, v, hv => by simp at hv
  | x :: l, a, h, v, hv => by
    simp only [risingF, Bool.and_eq_true, decide_eq_true_eq] at h
    rcases List.mem_cons.1 hv with rfl | hv
    · exact ⟨h.1, h.2.1⟩
    · have := risingF_mem h.2.2 v hv; omega
theorem risingF_nodup : ∀ {l : List Int} {a : Int}, risingF a l = true → l.Nodup
  | [], _, _ => List.nodup_nil
  | x :: l, a, h => by
    simp only [risingF, Bool.and_eq_true, decide_eq_true_eq] at h
    refine List.nodup_cons.2 ⟨fun hm => ?_, risingF_nodup h.2.2⟩
    have := risingF_mem h.2.2 x hm; omega
theorem risingF_len : ∀ {l : List Int} {a : Int}, risingF a l = true → a ≤ 200 → (l.length : Int) + a ≤ 200
  | [], a, _, ha => by simpa using ha
  | x :: l, a, h, ha => by
    simp only [risingF, Bool.and_eq_true, decide_eq_true_eq] at h
    have := risingF_len h.2.2 h.2.1
    simp only [List.length_cons]; omega
theorem rising_few {l : List Int} (h : risingF 0 l = true) : l.length ≤ 200 := by have := risingF_len h (by decide); omega
structure RightB (b : Brief) : Prop where
  rise : risingF 0 b.vars = true
  lc : b.colors.length = b.vars.length
  le : b.edge.length = b.vars.length
  col : ∀ c ∈ b.colors, -1 ≤ c ∧ c ≤ 63
  edg : ∀ e ∈ b.edge, 0 ≤ e ∧ e ≤ 1099511627776
theorem outF_no {a b n : Int} (h : outF a b n = false) : a ≤ n ∧ n ≤ b := by
  simp only [outF, Bool.or_eq_false_iff, decide_eq_false_iff_not] at h; omega
theorem rightB_of {b : Brief} (h : rightB b = true) : RightB b := by
  simp only [rightB, Bool.and_eq_true, decide_eq_true_eq, Bool.not_eq_true'] at h
  obtain ⟨h1, h2, h3, h4, h5⟩ := h
  exact ⟨h1, h2, h3, fun c hc => outF_no (anyF_false h4 c hc), fun c hc => outF_no (anyF_false h5 c hc)⟩

/-! ### what variables are worth -/
def valE (c e : Int) : Int := if c < 0 then -e else e
def trip (b : Brief) : List (Int × Int × Int) := b.vars.zip (b.colors.zip b.edge)
def pairsB (b : Brief) : List (Int × Int) := (trip b).map fun t => (t.1, valE t.2.1 t.2.2)
def addT (f : Int → Option Int) (p : Int × Int) : Int → Option Int := upd f p.1 (some ((f p.1).getD 0 + p.2))
def addL (f : Int → Option Int) (l : List (Int × Int)) : Int → Option Int := l.foldl addT f
def setT (f : Int → Option Int) (p : Int × Int) : Int → Option Int := upd f p.1 (some p.2)
def setL (f : Int → Option Int) (l : List (Int × Int)) : Int → Option Int := l.foldl setT f
def sumAt (v : Int) : List (Int × Int) → Int
  | [] => 0
  | p :: l => (if p.1 = v then p.2 else 0) + sumAt v l
theorem sumAt_cons (v : Int) (p : Int × Int) (l : List (Int × Int)) : sumAt v (p :: l) = (if p.1 = v then p.2 else 0) + sumAt v l := rfl
def contT (v : Int) : List (Int × Int × Int) → Int
  | [] => 0
  | t :: l => if t.1 = v then valE t.2.1 t.2.2 else contT v l
theorem addL_get : ∀ (l : List (Int × Int)) (f : Int → Option Int) (v : Int), (addL f l v).getD 0 = (f v).getD 0 + sumAt v l
  | [], f, v => by simp [addL, sumAt]
  | p :: l, f, v => by
    have h := addL_get l (addT f p) v
    show (addL (addT f p) l v).getD 0 = _
    rw [h]
    rw [sumAt_cons]
    unfold addT upd
    by_cases e : v = p.1
    · subst e; simp; omega
    · rw [if_neg e, if_neg (fun h => e h.symm)]; omega
theorem addL_bd {M : Int} (hM : 0 ≤ M) : ∀ (l : List (Int × Int)) (f : Int → Option Int) (B : Int), (∀ v, -B ≤ (f v).getD 0 ∧ (f v).getD 0 ≤ B) → (∀ p ∈ l, -M ≤ p.2 ∧ p.2 ≤ M) → ∀ v, -(B + l.length * M) ≤ (addL f l v).getD 0 ∧ (addL f l v).getD 0 ≤ B + l.length * M
  | [], f, B, hf, _, v => by simpa [addL] using hf v
  | p :: l, f, B, hf, hp, v => by
    have hp0 := hp p (by simp)
    have h := addL_bd hM l (addT f p) (B + M) (fun u => by
      unfold addT upd
      by_cases e : u = p.1
      · rw [if_pos e]; have := hf p.1; simp only [Option.getD_some]; omega
      · rw [if_neg e]; have := hf u; omega) (fun q hq => hp q (by simp [hq])) v
    have e : B + M + (l.length : Int) * M = B + ((p :: l).length : Int) * M := by
      simp only [List.length_cons]; push_cast; rw [Int.add_mul]; omega
    rw [← e]; exact h
theorem sumAt_none (v : Int) : ∀ (l : List (Int × Int)), (∀ p ∈ l, p.1 ≠ v) → sumAt v l = 0
  | [], _ => rfl
  | p :: l, h => by
    rw [sumAt_cons, if_neg (h p (by simp)), sumAt_none v l fun q hq => h q (by simp [hq])]; rfl
theorem sumAt_append (v : Int) : ∀ (l m : List (Int × Int)), sumAt v (l ++ m) = sumAt v l + sumAt v m
  | [], m => by simp [sumAt]
  | p :: l, m => by rw [List.cons_append, sumAt_cons, sumAt_cons, sumAt_append v l m]; omega
theorem sumAt_cont (v : Int) : ∀ (l : List (Int × Int × Int)), (l.map (·.1)).Nodup → sumAt v (l.map fun t => (t.1, valE t.2.1 t.2.2)) = contT v l
  | [], _ => rfl
  | t :: l, h => by
    rw [List.map_cons, List.nodup_cons] at h
    rw [List.map_cons, sumAt_cons]
    unfold contT
    by_cases e : t.1 = v
    · rw [if_pos e, if_pos e, sumAt_none v _ fun q hq => ?_, Int.add_zero]
      obtain ⟨s, hs, rfl⟩ := List.mem_map.1 hq
      intro h2
      apply h.1
      rw [e, ← h2]
      exact List.mem_map.2 ⟨s, hs, rfl⟩
    · rw [if_neg e, if_neg e, sumAt_cont v l h.2, Int.zero_add]
theorem trip_keys {b : Brief} (h : RightB b) : (trip b).map (·.1) = b.vars := by
  unfold trip
  rw [List.map_fst_zip]
  rw [List.length_zip, h.lc, h.le]; omega
theorem sumAt_pairs {b : Brief} (h : RightB b) (v : Int) : sumAt v (pairsB b) = contT v (trip b) :=
  sumAt_cont v _ (by rw [trip_keys h]; exact risingF_nodup h.rise)
theorem valE_bd {c e : Int} (h : 0 ≤ e ∧ e ≤ 1099511627776) : -1099511627776 ≤ valE c e ∧ valE c e ≤ 1099511627776 := by unfold valE; split <;> omega
theorem pairsB_bd {b : Brief} (h : RightB b) : ∀ p ∈ pairsB b, -1099511627776 ≤ p.2 ∧ p.2 ≤ 1099511627776 := by
  intro p hp
  obtain ⟨t, ht, rfl⟩ := List.mem_map.1 hp
  have h2 := (List.of_mem_zip ht).2
  exact valE_bd (h.edg _ (List.of_mem_zip h2).2)
theorem trip_len {b : Brief} (h : RightB b) : (trip b).length = b.vars.length := by rw [← List.length_map (f := (·.1)), trip_keys h]
theorem pairsB_len {b : Brief} (h : RightB b) : (pairsB b).length = b.vars.length := by unfold pairsB; rw [List.length_map, trip_len h]
theorem contT_bd {v : Int} : ∀ {l : List (Int × Int × Int)}, (∀ t ∈ l, 0 ≤ t.2.2 ∧ t.2.2 ≤ 1099511627776) → -1099511627776 ≤ contT v l ∧ contT v l ≤ 1099511627776
  | [], _ => by unfold contT; omega
  | t :: l, h => by
    unfold contT
    split
    · exact valE_bd (h t (by simp))
    · exact contT_bd fun q hq => h q (by simp [hq])
theorem cont_bd {b : Brief} (h : RightB b) (v : Int) : -1099511627776 ≤ contT v (trip b) ∧ contT v (trip b) ≤ 1099511627776 :=
  contT_bd fun t ht => h.edg _ (List.of_mem_zip (List.of_mem_zip ht).2).2
def sumB (v : Int) (l : List Brief) : Int := (l.map fun b => contT v (trip b)).sum
theorem sumB_nil (v : Int) : sumB v [] = 0 := rfl
theorem sumB_snoc (v : Int) (l : List Brief) (b : Brief) : sumB v (l ++ [b]) = sumB v l + contT v (trip b) := by simp [sumB]
theorem sumB_cons (v : Int) (l : List Brief) (b : Brief) : sumB v (b :: l) = contT v (trip b) + sumB v l := by simp [sumB]
theorem sumB_bd (v : Int) : ∀ {l : List Brief}, (∀ b ∈ l, RightB b) → -((l.length : Int) * 1099511627776) ≤ sumB v l ∧ sumB v l ≤ (l.length : Int) * 1099511627776
  | [], _ => by simp [sumB]
  | b :: l, h => by
    have h1 := cont_bd (h b (by simp)) v
    have h2 := sumB_bd v (l := l) fun x hx => h x (by simp [hx])
    rw [sumB_cons, List.length_cons]; push_cast; rw [Int.add_mul]; omega
def allPairs (l : List Brief) : List (Int × Int) := (l.map pairsB).flatten
theorem allPairs_snoc (l : List Brief) (b : Brief) : allPairs (l ++ [b]) = allPairs l ++ pairsB b := by simp [allPairs]
theorem sumAt_all (v : Int) : ∀ {l : List Brief}, (∀ b ∈ l, RightB b) → sumAt v (allPairs l) = sumB v l
  | [], _ => rfl
  | b :: l, h => by
    have : allPairs (b :: l) = pairsB b ++ allPairs l := by simp [allPairs]
    rw [this, sumAt_append, sumAt_pairs (h b (by simp)), sumAt_all v fun x hx => h x (by simp [hx]), sumB_cons]
theorem setL_other (v : Int) : ∀ (l : List (Int × Int)) (f : Int → Option Int), (∀ p ∈ l, p.1 ≠ v) → setL f l v = f v
  | [], f, _ => rfl
  | p :: l, f, h => by
    show setL (setT f p) l v = _
    rw [setL_other v l _ fun q hq => h q (by simp [hq])]
    unfold setT upd
    rw [if_neg fun e => h p (by simp) e.symm]
theorem setL_get : ∀ (l : List (Int × Int)) (f : Int → Option Int) (p : Int × Int), (l.map (·.1)).Nodup → p ∈ l → setL f l p.1 = some p.2
  | [], _, p, _, hp => by simp at hp
  | q :: l, f, p, hn, hp => by
    rw [List.map_cons, List.nodup_cons] at hn
    show setL (setT f q) l p.1 = _
    rcases List.mem_cons.1 hp with rfl | hp
    · rw [setL_other]
      · unfold setT upd; rw [if_pos rfl]
      · intro r hr e
        exact hn.1 (by rw [← e]; exact List.mem_map.2 ⟨r, hr, rfl⟩)
    · exact setL_get l _ p hn.2 hp
theorem setL_bd {B : Int} (hB : 0 ≤ B) : ∀ (l : List (Int × Int)) (f : Int → Option Int), (∀ v, -B ≤ (f v).getD 0 ∧ (f v).getD 0 ≤ B) → (∀ p ∈ l, -B ≤ p.2 ∧ p.2 ≤ B) → ∀ v, -B ≤ (setL f l v).getD 0 ∧ (setL f l v).getD 0 ≤ B
  | [], f, hf, _, v => hf v
  | p :: l, f, hf, hp, v => by
    refine setL_bd hB l (setT f p) (fun u => ?_) (fun q hq => hp q (by simp [hq])) v
    unfold setT upd
    by_cases e : u = p.1
    · rw [if_pos e]; exact hp p (by simp)
    · rw [if_neg e]; exact hf u
def worthV (l : List Brief) (p : Int × Int) : Int := max (p.2 + sumB p.1 l) 0
def goodW (vars weight : List Int) (l : List Brief) : Bool :=
  risingF 0 vars && (decide (weight.length = vars.length) && (!anyF (outF 0 1099511627776) weight && (decide (l.length ≤ 200) && !anyF (fun b => !rightB b) l)))
def worthR (vars weight : List Int) (l : List Brief) : List Int := (vars.zip weight).map (worthV l)
def worthT (vars weight : List Int) (l : List Brief) : List Int × Int := if goodW vars weight l then (worthR vars weight l, 0) else ([], 2)
structure GoodW (vars weight : List Int) (l : List Brief) : Prop where
  rise : risingF 0 vars = true
  lw : weight.length = vars.length
  wt : ∀ c ∈ weight, 0 ≤ c ∧ c ≤ 1099511627776
  few : l.length ≤ 200
  all : ∀ b ∈ l, RightB b
theorem all_right {l : List Brief} (h : anyF (fun b => !rightB b) l = false) : ∀ b ∈ l, RightB b := fun b hb => rightB_of (by have := anyF_false h b hb; simpa using this)
theorem goodW_of {vars weight : List Int} {l : List Brief} (h : goodW vars weight l = true) : GoodW vars weight l := by
  simp only [goodW, Bool.and_eq_true, decide_eq_true_eq, Bool.not_eq_true'] at h
  obtain ⟨h1, h2, h3, h4, h5⟩ := h
  exact ⟨h1, h2, fun c hc => outF_no (anyF_false h3 c hc), h4, all_right h5⟩

/-! ### rows of colors -/
def rowC (c : Int) (l : List (Int × Int)) : List Int := (l.filter fun p => p.2 == c).map (·.1)
def vcB (b : Brief) : List (Int × Int) := b.vars.zip b.colors
theorem rowC_snoc (c : Int) (l : List (Int × Int)) (p : Int × Int) : rowC c (l ++ [p]) = if p.2 = c then rowC c l ++ [p.1] else rowC c l := by
  unfold rowC
  rw [List.filter_append]
  by_cases e : p.2 = c
  · rw [if_pos e]; simp [List.filter_cons, e]
  · rw [if_neg e]; simp [List.filter_cons, e]
def colorsB (b : Brief) : List Int := ((List.range 64).map fun i : Nat => (i : Int)).filter fun c => !(rowC c (vcB b)).isEmpty
def apartB (b : Brief) : List (List Int) := if rightB b then (colorsB b).map fun c => rowC c (vcB b) else []
theorem lt_unique : ∀ {l m : List Int}, l.Pairwise (· < ·) → m.Pairwise (· < ·) → (∀ x, x ∈ l ↔ x ∈ m) → l = m
  | [], [], _, _, _ => rfl
  | [], y :: m, _, _, h => by have := (h y).2 (by simp); simp at this
  | x :: l, [], _, _, h => by have := (h x).1 (by simp); simp at this
  | x :: l, y :: m, hl, hm, h => by
    rw [List.pairwise_cons] at hl hm
    have hxy : x = y := by
      have h1 := (h x).1 (by simp)
      have h2 := (h y).2 (by simp)
      rcases List.mem_cons.1 h1 with e | h1
      · exact e
      · rcases List.mem_cons.1 h2 with e | h2
        · exact e.symm
        · have := hl.1 y h2; have := hm.1 x h1; omega
    subst hxy
    rw [lt_unique hl.2 hm.2 fun z => ?_]
    have hz := h z
    simp only [List.mem_cons] at hz
    constructor
    · intro hzl
      rcases hz.1 (.inr hzl) with e | e
      · have := hl.1 z hzl; omega
      · exact e
    · intro hzm
      rcases hz.2 (.inr hzm) with e | e
      · have := hm.1 z hzm; omega
      · exact e
theorem sort_lt {l : List Int} (h : l.Nodup) : (l.mergeSort fun x y => decide (x ≤ y)).Pairwise (· < ·) := by
  have hs : (l.mergeSort fun x y => decide (x ≤ y)).Pairwise fun x y => decide (x ≤ y) = true := List.pairwise_mergeSort (fun a b c => by simp; omega) (fun a b => by simp; omega) l
  have hn : (l.mergeSort fun x y => decide (x ≤ y)).Nodup := (List.mergeSort_perm l _).nodup_iff.2 h
  refine (List.pairwise_and_iff.2 ⟨hs, hn⟩).imp ?_
  rintro x y ⟨h1, h2⟩
  have h1 := of_decide_eq_true h1
  omega
theorem range_lt (n : Nat) (k : Int) : ((List.range n).map fun i : Nat => (i : Int) + k).Pairwise (· < ·) := by
  rw [List.pairwise_map]
  exact List.pairwise_lt_range.imp fun h => by omega
/-! ### what is kept -/
def hasV (v : Int) (b : Brief) : Bool := b.vars.contains v
def spilV (v : Int) (b : Brief) : Bool := (vcB b).any fun p => p.1 == v && decide (p.2 < 0)
def keptB (l : List Brief) : List Int :=
  if anyF (fun b => !rightB b) l then [] else ((List.range 200).map fun i : Nat => (i : Int) + 1).filter fun v => l.any (hasV v) && !l.any (spilV v)
end Go.Proofs.YthmglmmafgdmhaaGreat
