/- law28: plain: what can be written, and its text. law28: plain: how long what is shown is. -/
import Derived.Test.YtppkanniefignaaGreatDoorG22
import Derived.Test.YtppkanniefignaaGreatDoorG16
import Derived.Lib.ItoaLen
set_option linter.unusedSimpArgs false
set_option linter.unusedVariables false
namespace Go.Proofs.YtppkanniefignaaGreatDoor
open Go.RowKit
def inR (n a b : Int) : Bool := decide (a ≤ n) && decide (n < b)
def factOk (f : Fact) : Bool := (inR f.var 1 201 || inR f.var (-64) 0) && inR f.loc.n 0 (if f.loc.slot = true then 400 else 64)
def tileOk (t : Tile) : Bool := inR t.kind 1 5 && inR t.parent (-1) 200 && decide (t.blocks.length ≤ 200) && t.blocks.all fun b => inR b 0 200
def rowL : Option Fact → List Fact → Bool
 | _, [] => true
 | none, f :: l => factOk f && rowL (some f) l
 | some g, f :: l => factOk f && aheadF g f && rowL (some f) l
def rowOk (l : List Fact) : Bool := rowL none l && decide (l.length ≤ 600)
def fitsB (c : Cert) : Bool := decide (c.tiles.length ≤ 200) && decide (c.facts.length ≤ 400) && c.tiles.all tileOk && c.facts.all rowOk
def tailW : List ByteArray → ByteArray
 | [] => ByteArray.empty
 | y :: l => (⟨#[32]⟩ ++ y) ++ tailW l
def joinW : List ByteArray → ByteArray
 | [] => ByteArray.empty
 | x :: l => x ++ tailW l
def tileP (t : Tile) : List Pt := [.str tTile, .str (kindT t.kind.toNat), .int t.parent, .str tColon] ++ t.blocks.map .int
def factP (f : Fact) : List Pt := [.nm (.var f.var), .str tEq, .nm (.loc f.loc)]
def factsP : Bool → List Fact → List Pt
 | _, [] => []
 | true, f :: l => factP f ++ factsP false l
 | false, f :: l => .str tComma :: (factP f ++ factsP false l)
def edgeP (l : List Fact) : List Pt := .str tEdge :: factsP true l
def lineB (ps : List Pt) : ByteArray := joinW (ps.map ptB) ++ ⟨#[10]⟩
def linesB : ByteArray → List (List Pt) → ByteArray
 | acc, [] => acc
 | acc, p :: l => linesB (acc ++ lineB p) l
def showB (c : Cert) : ByteArray := linesB (linesB ByteArray.empty (c.tiles.map tileP)) (c.facts.map edgeP)
def rightB (c : Cert) : Bool := fitsB c && decide ((showB c).size ≤ 262144)
def printB28 (c : Cert) : ByteArray × Int := if rightB c = true then (showB c, 0) else (ByteArray.empty, 2)
theorem itoa_sz28 (n : Int) (h : InI n) : (itoaB n).size ≤ 21 := by
 have := Lib.itoa_length_le n h.1 h.2
 unfold itoaB
 show (Lib.itoa n).toArray.size ≤ 21
 simpa using this
theorem tailW_sz (m : Nat) : ∀ l : List ByteArray, (∀ x ∈ l, x.size ≤ m) → (tailW l).size ≤ (m + 1) * l.length
 | [], _ => by simp [tailW]
 | x :: l, h => by
  have h1 := tailW_sz m l fun y hy => h y (List.mem_cons_of_mem _ hy)
  have h2 := h x (by simp)
  have h3 : (⟨#[32]⟩ : ByteArray).size = 1 := rfl
  show ((⟨#[32]⟩ ++ x) ++ tailW l).size ≤ _
  simp only [ByteArray.size_append, h3, List.length_cons, Nat.mul_add, Nat.mul_one]
  omega
theorem joinW_sz (m : Nat) (l : List ByteArray) (h : ∀ x ∈ l, x.size ≤ m) : (joinW l).size ≤ (m + 1) * l.length := by
 cases l with
 | nil => simp [joinW]
 | cons x l =>
  have h1 := tailW_sz m l fun y hy => h y (List.mem_cons_of_mem _ hy)
  have h2 := h x (by simp)
  show (x ++ tailW l).size ≤ _
  simp only [ByteArray.size_append, List.length_cons, Nat.mul_add, Nat.mul_one]
  omega
theorem join_joinW (l : List ByteArray) : (⟨(Lib.join (l.map (·.data.toList)) (⟨#[32]⟩ : ByteArray).data.toList).toArray⟩ : ByteArray) = joinW l := by
 apply bytes_ext
 cases l with
 | nil => rfl
 | cons x l =>
  simp only [List.map_cons, Lib.join_cons]
  have key : ∀ l : List ByteArray, Lib.joinTail (⟨#[32]⟩ : ByteArray).data.toList (l.map (·.data.toList)) = (tailW l).data.toList := by
   intro l
   induction l with
   | nil => rfl
   | cons y l ih =>
    have ih' := ih
    unfold Lib.joinTail at ih' ⊢
    simp only [List.map_cons, List.flatten_cons]
    rw [ih']
    simp [tailW]
  show x.data.toList ++ _ = (x ++ tailW l).data.toList
  rw [key]
  simp
end Go.Proofs.YtppkanniefignaaGreatDoor
namespace Go.Proofs.YtppkanniefignaaGreatDoor
open Go.RowKit
theorem inR_in {n a b : Int} (h : inR n a b = true) : a ≤ n ∧ n < b := by unfold inR at h; simpa using h
structure TileIn (t : Tile) : Prop where
 k1 : 1 ≤ t.kind
 k4 : t.kind ≤ 4
 p1 : -1 ≤ t.parent
 p2 : t.parent < 200
 n : t.blocks.length ≤ 200
 b : ∀ x ∈ t.blocks, 0 ≤ x ∧ x < 200
theorem tileOk_in {t : Tile} (h : tileOk t = true) : TileIn t := by
 unfold tileOk at h
 simp only [Bool.and_eq_true, decide_eq_true_eq, List.all_eq_true] at h
 obtain ⟨⟨⟨h1, h2⟩, h3⟩, h4⟩ := h
 have a1 := inR_in h1
 have a2 := inR_in h2
 exact ⟨a1.1, by omega, a2.1, a2.2, h3, fun x hx => inR_in (h4 x hx)⟩
structure FactIn (f : Fact) : Prop where
 v1 : -64 ≤ f.var
 v2 : f.var ≤ 200
 n1 : 0 ≤ f.loc.n
 n2 : f.loc.n < 400
 ok : NmOk (.var f.var) ∧ NmOk (.loc f.loc)
theorem factOk_in {f : Fact} (h : factOk f = true) : FactIn f := by
 unfold factOk at h
 simp only [Bool.and_eq_true, Bool.or_eq_true] at h
 obtain ⟨h1, h2⟩ := h
 have a2 := inR_in h2
 have h3 : (1 ≤ f.var ∧ f.var < 201) ∨ (-64 ≤ f.var ∧ f.var < 0) := by rcases h1 with h | h; exact .inl (inR_in h); exact .inr (inR_in h)
 have h4 : f.loc.n < 400 := by
  have := a2.2
  split at this <;> omega
 refine ⟨by omega, by omega, a2.1, h4, ?_, ?_⟩
 ·show (1 ≤ f.var ∧ f.var ≤ 200) ∨ (-64 ≤ f.var ∧ f.var < 0); omega
 ·exact ⟨a2.1, a2.2⟩
theorem rowL_all : ∀ (l : List Fact) (p : Option Fact), rowL p l = true → ∀ f ∈ l, factOk f = true
 | [], _, _ => fun _ h => (by cases h)
 | x :: l, none, h => by
  rw [show rowL none (x :: l) = (factOk x && rowL (some x) l) from rfl, Bool.and_eq_true] at h
  intro f hf
  rcases List.mem_cons.1 hf with hf | hf
  ·rw [hf]; exact h.1
  ·exact rowL_all l _ h.2 f hf
 | x :: l, some g, h => by
  rw [show rowL (some g) (x :: l) = (factOk x && aheadF g x && rowL (some x) l) from rfl, Bool.and_eq_true, Bool.and_eq_true] at h
  intro f hf
  rcases List.mem_cons.1 hf with hf | hf
  ·rw [hf]; exact h.1.1
  ·exact rowL_all l _ h.2 f hf
theorem rowOk_in {l : List Fact} (h : rowOk l = true) : (∀ f ∈ l, factOk f = true) ∧ l.length ≤ 600 := by
 unfold rowOk at h
 rw [Bool.and_eq_true, decide_eq_true_eq] at h
 exact ⟨rowL_all l _ h.1, h.2⟩
structure FitsIn (c : Cert) : Prop where
 t : c.tiles.length ≤ 200
 f : c.facts.length ≤ 400
 ts : ∀ t ∈ c.tiles, tileOk t = true
 fs : ∀ l ∈ c.facts, rowOk l = true
theorem fits_in {c : Cert} (h : fitsB c = true) : FitsIn c := by
 unfold fitsB at h
 simp only [Bool.and_eq_true, decide_eq_true_eq, List.all_eq_true] at h
 exact ⟨h.1.1.1, h.1.1.2, h.1.2, h.2⟩
theorem itoa_in {n : Int} (h1 : -1000000 ≤ n) (h2 : n ≤ 1000000) : (itoaB n).size ≤ 21 := itoa_sz28 n ⟨by omega, by omega⟩
theorem tile_words {t : Tile} (h : TileIn t) : ∀ x ∈ (tileP t).map ptB, x.size ≤ 22 := by
 intro x hx
 unfold tileP at hx
 rw [List.map_append, List.mem_append] at hx
 rcases hx with hx | hx
 ·simp only [List.map_cons, List.map_nil, List.mem_cons, List.not_mem_nil, or_false] at hx
  rcases hx with hx | hx | hx | hx
  ·rw [hx]; decide
  ·rw [hx]
   have := h.k1; have := h.k4
   show (kindT t.kind.toNat).size ≤ 22
   rcases (by omega : t.kind.toNat = 1 ∨ t.kind.toNat = 2 ∨ t.kind.toNat = 3 ∨ t.kind.toNat = 4) with e | e | e | e <;> rw [e] <;> decide
  ·rw [hx]; have := h.p1; have := h.p2; exact Nat.le_trans (itoa_in (by omega) (by omega)) (by decide)
  ·rw [hx]; decide
 ·rw [List.map_map, List.mem_map] at hx
  obtain ⟨b, hb, rfl⟩ := hx
  have := h.b b hb
  exact Nat.le_trans (itoa_in (n := b) (by omega) (by omega)) (by decide)
theorem line_tile_sz {t : Tile} (h : TileIn t) : (lineB (tileP t)).size ≤ 5000 := by
 have h1 := joinW_sz 22 _ (tile_words h)
 have h2 : ((tileP t).map ptB).length ≤ 204 := by
  unfold tileP
  have := h.n
  simp only [List.map_append, List.length_append, List.length_map, List.length_cons, List.length_nil]
  omega
 have h3 : (⟨#[10]⟩ : ByteArray).size = 1 := rfl
 unfold lineB
 rw [ByteArray.size_append, h3]
 omega
theorem fact_words {f : Fact} (h : FactIn f) : ∀ x ∈ (factP f).map ptB, x.size ≤ 22 := by
 intro x hx
 have a1 := h.v1; have a2 := h.v2; have a3 := h.n1; have a4 := h.n2
 simp only [factP, List.map_cons, List.map_nil, List.mem_cons, List.not_mem_nil, or_false] at hx
 rcases hx with hx | hx | hx
 ·rw [hx]
  show (if f.var < 0 then (⟨#[104]⟩ : ByteArray) ++ itoaB (-1 - f.var) else ⟨#[118]⟩ ++ itoaB f.var).size ≤ 22
  split
  ·have := itoa_in (n := -1 - f.var) (by omega) (by omega)
   have h3 : (⟨#[104]⟩ : ByteArray).size = 1 := rfl
   rw [ByteArray.size_append, h3]; omega
  ·have := itoa_in (n := f.var) (by omega) (by omega)
   have h3 : (⟨#[118]⟩ : ByteArray).size = 1 := rfl
   rw [ByteArray.size_append, h3]; omega
 ·rw [hx]; decide
 ·rw [hx]
  have := itoa_in (n := f.loc.n) (by omega) (by omega)
  have h3 : (if f.loc.slot = true then (⟨#[115]⟩ : ByteArray) else ⟨#[114]⟩).size = 1 := by split <;> rfl
  show ((if f.loc.slot = true then (⟨#[115]⟩ : ByteArray) else ⟨#[114]⟩) ++ itoaB f.loc.n).size ≤ 22
  rw [ByteArray.size_append, h3]; omega
theorem facts_words : ∀ (l : List Fact) (b : Bool), (∀ f ∈ l, FactIn f) → (∀ x ∈ (factsP b l).map ptB, x.size ≤ 22) ∧ (factsP b l).length ≤ 4 * l.length
 | [], b, _ => by cases b <;> exact ⟨fun _ h => (by cases h), Nat.zero_le _⟩
 | f :: l, b, h => by
  have ih := facts_words l false fun g hg => h g (List.mem_cons_of_mem _ hg)
  have hf := fact_words (h f (by simp))
  have hl : (factP f).length = 3 := rfl
  cases b with
  | true =>
   rw [show factsP true (f :: l) = factP f ++ factsP false l from rfl]
   refine ⟨fun x hx => ?_, by rw [List.length_append, hl, List.length_cons]; have := ih.2; omega⟩
   rw [List.map_append, List.mem_append] at hx
   rcases hx with hx | hx
   ·exact hf x hx
   ·exact ih.1 x hx
  | false =>
   rw [show factsP false (f :: l) = .str tComma :: (factP f ++ factsP false l) from rfl]
   refine ⟨fun x hx => ?_, by rw [List.length_cons, List.length_append, hl, List.length_cons]; have := ih.2; omega⟩
   rw [List.map_cons, List.mem_cons, List.map_append, List.mem_append] at hx
   rcases hx with hx | hx | hx
   ·rw [hx]; decide
   ·exact hf x hx
   ·exact ih.1 x hx
theorem edge_len {l : List Fact} (h : ∀ f ∈ l, FactIn f) : (edgeP l).length ≤ 4 * l.length + 1 := by
 have := (facts_words l true h).2
 show (Pt.str tEdge :: factsP true l).length ≤ _
 rw [List.length_cons]; omega
theorem line_edge_sz {l : List Fact} (h : ∀ f ∈ l, FactIn f) (hl : l.length ≤ 600) : (lineB (edgeP l)).size ≤ 60000 := by
 have h0 := facts_words l true h
 have h1 := joinW_sz 22 ((edgeP l).map ptB) (fun x hx => by
  rw [show edgeP l = .str tEdge :: factsP true l from rfl, List.map_cons, List.mem_cons] at hx
  rcases hx with hx | hx
  ·rw [hx]; decide
  ·exact h0.1 x hx)
 have h2 := edge_len h
 have h3 : (⟨#[10]⟩ : ByteArray).size = 1 := rfl
 rw [List.length_map] at h1
 unfold lineB
 rw [ByteArray.size_append, h3]
 omega
theorem factsP_snoc : ∀ (l : List Fact) (b : Bool) (x : Fact), factsP b (l ++ [x]) = factsP b l ++ ((if l = [] ∧ b = true then [] else [.str tComma]) ++ factP x)
 | [], true, x => by simp [factsP]
 | [], false, x => by simp [factsP]
 | f :: l, true, x => by
  rw [List.cons_append, show factsP true (f :: (l ++ [x])) = factP f ++ factsP false (l ++ [x]) from rfl, factsP_snoc l false x]
  show factP f ++ (factsP false l ++ _) = (factP f ++ factsP false l) ++ _
  simp
 | f :: l, false, x => by
  rw [List.cons_append, show factsP false (f :: (l ++ [x])) = .str tComma :: (factP f ++ factsP false (l ++ [x])) from rfl, factsP_snoc l false x]
  show Pt.str tComma :: (factP f ++ (factsP false l ++ _)) = (Pt.str tComma :: (factP f ++ factsP false l)) ++ _
  simp
theorem edgeP_snoc (l : List Fact) (x : Fact) : edgeP (l ++ [x]) = edgeP l ++ ((if l = [] then [] else [.str tComma]) ++ factP x) := by
 show Pt.str tEdge :: factsP true (l ++ [x]) = (Pt.str tEdge :: factsP true l) ++ _
 rw [factsP_snoc]
 simp
end Go.Proofs.YtppkanniefignaaGreatDoor
