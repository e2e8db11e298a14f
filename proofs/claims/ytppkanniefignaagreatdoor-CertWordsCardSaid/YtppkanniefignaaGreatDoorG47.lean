/- Lists that lie apart: what is held of them; append that keeps what the old slice reads as. Regions that draw their order and make memory: what each operation makes lies apart; a tail that is done in order. -/
import Derived.Test.YtppkanniefignaaGreatDoorG46
import Derived.Test.YtppkanniefignaaGreatDoorG21
import Derived.Test.YtppkanniefignaaGreatDoorG2
import Derived.Test.YtppkanniefignaaGreatDoorG3
import Derived.StillTail
set_option linter.unusedSimpArgs false
set_option linter.unusedVariables false
namespace Go.Proofs.YtppkanniefignaaGreatDoor
open Go.RowKit
structure Hdr where
 a : Option Addr
 n : Nat
 c : Nat
 deriving Inhabited
instance : Rep Hdr where
 size := 1
 is _ _ h vs := vs = [.slice h.a h.n h.c]
 len h := by rw [h]; rfl
 keep h _ _ := h
 more h _ := h
 one h := by rw [h]; simp [Value.oneCell']
section
variable {P : Program}
theorem append_keeps (w : World) (base : Nat) (t ty e : TypeId) (i : TypeInfo) (z : Value) (size bytes : Nat) (ht : P.underlying t = some (.slice e)) (hi : P.info? e = some i) (hz : i.zero = some z)
  (hsize : i.size = size) (hby : i.bytes = bytes) (v : Value) (n : Nat) (xs : List Value) (hown : w.ownsRow base e size v n xs)
  (a : Addr) (m c : Nat) (news : List Value) (hl : news.length = m * size) (hnews : ∀ j u, news[j]? = some u → w.cell? (a.add j) = some u) (h1 : ∀ u ∈ news, u.oneCell' = true)
  (h63 : n + m ≤ maxLen) (hbytes : (n + m) * bytes ≤ 140737488355328) {v' : Value} {w' : World} (hrun : (Builtin.append_ #[t, t] ty #[v, .slice (some a) m c]).run P w = .ok v' w') : w'.ownsRow base e size v n xs := by
 subst hsize hby
 have hsmall : n + m ≤ 9223372036854775807 := by simp only [maxLen] at h63; omega
 rcases hown.2 with ⟨rfl, hn⟩ | ⟨g, cap, cur, rfl, hbg, hg, hnc, hcm, hcs, htake⟩
 ·exact ⟨hown.1, .inl ⟨rfl, hn⟩⟩
 ·by_cases hroom : n + m ≤ cap
  ·have hfit : n * i.size + news.length ≤ cur.size := by rw [hl, hcs, ← Nat.add_mul]; exact Nat.mul_le_mul_right _ hroom
   rw [run_append_room (P := P) w t ty e i ht hi g n cap cur hg a m c news hl hnews h1 hroom hfit] at hrun
   injection hrun with _ hw
   subst hw
   refine ⟨hown.1, .inr ⟨g, cap, _, rfl, hbg, setRow_heap w g cur _ e _ hg, hnc, hcm, ?_, ?_⟩⟩
   ·simp only [List.size_toArray, List.length_append, List.length_take, List.length_drop, Array.length_toList]
    omega
   ·rw [List.append_assoc, List.take_left' (by rw [List.length_take, Array.length_toList]; omega)]
    exact htake
  ·have holds : ∀ j u, xs[j]? = some u → w.cell? ((⟨g, 0, none⟩ : Addr).add j) = some u := hown.cells (g := g) rfl
   rw [run_append_grow (P := P) w t ty e i z ht hi hz ⟨g, 0, none⟩ n cap xs hown.1 holds a m c news hl hnews (by omega) (by omega) (growslice_fits (by omega) hbytes)] at hrun
   injection hrun with _ hw
   subst hw
   exact ⟨hown.1, .inr ⟨g, cap, cur, rfl, hbg, (Below.heap_alloc w.drew _ g (Array.getElem?_eq_some_iff.1 hg).1).trans hg, hnc, hcm, hcs, htake⟩⟩
variable {ops : Array Oper} {rest : List Oper} {o : Oper} {a : Act} {Q : Exit → Act → World → Prop}
theorem wpList_pushK (w : World) (hgd : o.guard = none) (s x : Operand) (t : TypeId)
  (ho : o.op = .call { callee := .builtin .append, args := #[s, x], argTypes := #[t, t] })
  (base : Nat) (T : TypeId) (i : TypeInfo) (z : Value) (bytes : Nat) (ht : P.underlying t = some (.slice T)) (hi : P.info? T = some i) (hz : i.zero = some z)
  (hsize : i.size = 1) (hby : i.bytes = bytes) (hzs : z.cells.size = 1)
  (v : Value) (xs ys : List Int) (hs : a.eval s = v) (hown : OwnL w base T (fun _ => False) v xs)
  (ad : Addr) (m c : Nat) (hx : a.eval x = .slice (some ad) m c) (hm : ys.length = m) (hin : ∀ y ∈ ys, InI y) (hnews : ∀ (j : Nat) (y : Int), ys[j]? = some y → w.cell? (ad.add j) = some (.int .i64 y))
  (h63 : xs.length + m ≤ maxLen) (hbytes : (xs.length + m) * bytes ≤ 140737488355328) (hbase : base ≤ w.heap.size)
  (h : ∀ v' w', OwnL w' base T (fun _ => False) v' (xs ++ ys) → OwnL w' base T (fun _ => False) v xs → w.grownBy w' v.ownBlock → (v'.ownBlock = v.ownBlock ∨ v'.ownBlock = some w.heap.size) → wpList P ops Q rest (a.put o.dst v') w') : wpList P ops Q (o :: rest) a w := by
 obtain ⟨vals, hrow, hrep, hapart⟩ := hown
 have hr : RepL w (fun _ => False) ys (ys.map (Value.int .i64)) := RepL.ints ys hin
 have hcells : ∀ j u, (ys.map (Value.int .i64))[j]? = some u → w.cell? (ad.add j) = some u := fun j u hj => by
  rw [List.getElem?_map] at hj
  cases hy : ys[j]? with
  | none => rw [hy] at hj; cases hj
  | some y => rw [hy] at hj; injection hj with hj; rw [← hj]; exact hnews j y hy
 obtain ⟨v', w', hrun, h2, h3, _, h5⟩ := run_append_own_at (P := P) w base t o.type T i z 1 bytes ht hi hz hsize hby hzs (by omega) v xs.length vals hrow ad m c (ys.map (Value.int .i64)) (by rw [List.length_map, hm]; omega) hcells hr.one h63 hbytes hbase
 have hk := append_keeps (P := P) w base t o.type T i z 1 bytes ht hi hz hsize hby v xs.length vals hrow ad m c (ys.map (Value.int .i64)) (by rw [List.length_map, hm]; omega) hcells hr.one h63 hbytes hrun
 refine wpList_plain hgd fun _ hK => ?_
 unfold Oper.wp execOp
 simp only [ho, resolve, invoke, builtin, Sem.run_bind, Sem.run_pure, Result.andThen_ok, List.map_toArray, List.map_cons, List.map_nil, hs, hx, hrun]
 exact hK _ _ (h v' w' ⟨vals ++ ys.map (Value.int .i64), by rw [List.length_append, hm]; exact h2, (RepL.append hrep hr).ints_more, fun _ _ h => h⟩ ⟨vals, hk, hrep.ints_more, fun _ _ h => h⟩ h3 h5)
end
section
variable {w w' : World} {B : Nat} {hs : List Hdr} {f f' : Nat → List Int}
end
end Go.Proofs.YtppkanniefignaaGreatDoor
namespace Go.Proofs.YtppkanniefignaaGreatDoor
open Go.RowKit
section
variable {P : Program} {ops : Array Oper} {F : World → Prop} {Ms : List Nat} {an : List (List Nat)} {Q : Act → World → Prop} {B : Nat}
structure HeldG where
 idx : Nat
 dst : Option Tmp
 post : Nat → Nat → Post
theorem wpAny_of_seq' {Q' : Exit → Act → World → Prop} : ∀ (l : List Oper) (f k : Nat) (listed : Array Bool) (a : Act) (w : World), (∀ j, l[j]? = ops[k + j]?) →
  Region.seqB .any ops l.length k listed = true → wpList P ops Q' l a w → wpAny P .any ops Q' (l.length + f) listed a w
 | [], 0, _, _, _, _, _, hB, h => ⟨by simpa [Region.seqB] using hB, h⟩
 | [], f + 1, _, listed, _, _, _, hB, h => by
  have h0 : Region.ready .any ops listed = [] := by simpa [Region.seqB] using hB
  rw [show ([] : List Oper).length + (f + 1) = f + 1 by simp]
  exact ⟨fun _ => h, fun i hi => by rw [h0] at hi; cases hi⟩
 | o :: l, f, k, listed, a, w, hl, hB, h => by
  have h0 : ops[k]? = some o := by simpa using (hl 0).symm
  simp only [List.length_cons, Region.seqB, Bool.and_eq_true, decide_eq_true_eq] at hB
  rw [show (o :: l).length + f = (l.length + f) + 1 by simp; omega]
  refine ⟨fun h1 => (by rw [hB.1] at h1; cases h1), fun i hi => ?_⟩
  rw [hB.1] at hi
  have hik : i = k := by simpa using hi
  subst hik
  have hw : wpOp P ops Q' i (wpList P ops Q' l) a w := by unfold wpOp; simp only [h0]; exact h
  exact wpOp_mono (fun a' w' h' => wpAny_of_seq' l f (i + 1) _ a' w' (fun j => by have := hl (j + 1); simpa [Nat.add_assoc, Nat.add_comm 1 j] using this) hB.2 h') hw
def headsOf (n m : Nat) : Array Bool := ((List.range (n + m)).map fun j => decide (j < n)).toArray
def tailB (l : List Oper) (n : Nat) : Bool :=
 decide (n ≤ l.length) && (List.range (l.length - n)).all (fun t => (List.range n).all fun j => ((ancOf l.toArray).getD (n + t) []).contains j) && Region.seqB .any l.toArray (l.length - n) n (headsOf n (l.length - n))
section
variable {o : Oper} {rest : List Oper} {k : Nat} {a : Act} {H : List HeldG} {w0 : World}
end
end
end Go.Proofs.YtppkanniefignaaGreatDoor
