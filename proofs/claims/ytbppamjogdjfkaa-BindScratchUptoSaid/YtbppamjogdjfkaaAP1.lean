/- Lists that lie apart: what is held of them; append that keeps what the old slice reads as. -/
import Derived.Test.YtbppamjogdjfkaaN2
import Derived.Test.YtbppamjogdjfkaaN3
import Derived.Test.YtbppamjogdjfkaaFlow4
set_option linter.unusedSimpArgs false
set_option linter.unusedVariables false
namespace Go.Proofs.Ytbppamjogdjfkaa
open Go.RowKit

/-- A slice, as a value. -/
structure Hdr where
  a : Option Addr
  n : Nat
  c : Nat
  deriving Inhabited
abbrev Hdr.v (h : Hdr) : Value := .slice h.a h.n h.c
instance : Rep Hdr where
  size := 1
  is _ _ h vs := vs = [.slice h.a h.n h.c]
  len h := by rw [h]; rfl
  keep h _ _ := h
  more h _ := h
  one h := by rw [h]; simp [Value.oneCell']
theorem at_hdr {w : World} {S : Nat → Prop} {n c : Nat} {A : Option Addr} {hs : List Hdr} (h : Sl w S A n c hs) {k : Nat} (hk : k < n) :
    ∃ b off x, A = some ⟨b, off, none⟩ ∧ b < w.heap.size ∧ S b ∧ hs[k]? = some x ∧ w.cell? ⟨b, off + k, none⟩ = some (.slice x.a x.n x.c) := by
  obtain ⟨b, off, x, us, e, hb, hS, hx, hus, hc⟩ := h.at_ hk
  have hus : us = [.slice x.a x.n x.c] := hus
  subst hus
  refine ⟨b, off, x, e, hb, hS, hx, ?_⟩
  have := hc 0 _ rfl
  simpa [Rep.size] using this
theorem RepL.hdrs (w : World) (S : Nat → Prop) : ∀ us : List Hdr, RepL w S us (us.map Hdr.v)
  | [] => rfl
  | x :: l => ⟨[x.v], l.map Hdr.v, rfl, rfl, RepL.hdrs w S l⟩
theorem RepL.hdrs_eq {w : World} {S : Nat → Prop} : ∀ {us : List Hdr} {vs : List Value}, RepL w S us vs → vs = us.map Hdr.v
  | [], vs, h => h
  | x :: l, vs, ⟨a, b, e, h1, h2⟩ => by
    have h1 : a = [.slice x.a x.n x.c] := h1
    rw [e, h1, RepL.hdrs_eq h2]; rfl

section
variable {P : Program}
/-- What is appended to a slice leaves what the slice reads as. -/
theorem append_keeps (w : World) (base : Nat) (t ty e : TypeId) (i : TypeInfo) (z : Value) (size bytes : Nat) (ht : P.underlying t = some (.slice e)) (hi : P.info? e = some i) (hz : i.zero = some z)
    (hsize : i.size = size) (hby : i.bytes = bytes) (v : Value) (n : Nat) (xs : List Value) (hown : w.ownsRow base e size v n xs)
    (a : Addr) (m c : Nat) (news : List Value) (hl : news.length = m * size) (hnews : ∀ j u, news[j]? = some u → w.cell? (a.add j) = some u) (h1 : ∀ u ∈ news, u.oneCell' = true)
    (h63 : n + m ≤ maxLen) (hbytes : (n + m) * bytes ≤ 140737488355328) {v' : Value} {w' : World} (hrun : (Builtin.append_ #[t, t] ty #[v, .slice (some a) m c]).run P w = .ok v' w') : w'.ownsRow base e size v n xs := by
  subst hsize hby
  have hsmall : n + m ≤ 9223372036854775807 := by simp only [maxLen] at h63; omega
  rcases hown.2 with ⟨rfl, hn⟩ | ⟨g, cap, cur, rfl, hbg, hg, hnc, hcm, hcs, htake⟩
  · exact ⟨hown.1, .inl ⟨rfl, hn⟩⟩
  · by_cases hroom : n + m ≤ cap
    · have hfit : n * i.size + news.length ≤ cur.size := by rw [hl, hcs, ← Nat.add_mul]; exact Nat.mul_le_mul_right _ hroom
      rw [run_append_room (P := P) w t ty e i ht hi g n cap cur hg a m c news hl hnews h1 hroom hfit] at hrun
      injection hrun with _ hw
      subst hw
      refine ⟨hown.1, .inr ⟨g, cap, _, rfl, hbg, setRow_heap w g cur _ e _ hg, hnc, hcm, ?_, ?_⟩⟩
      · simp only [List.size_toArray, List.length_append, List.length_take, List.length_drop, Array.length_toList]
        omega
      · rw [List.append_assoc, List.take_left' (by rw [List.length_take, Array.length_toList]; omega)]
        exact htake
    · have holds : ∀ j u, xs[j]? = some u → w.cell? ((⟨g, 0, none⟩ : Addr).add j) = some u := hown.cells (g := g) rfl
      rw [run_append_grow (P := P) w t ty e i z ht hi hz ⟨g, 0, none⟩ n cap xs hown.1 holds a m c news hl hnews (by omega) (by omega) (growslice_fits (by omega) hbytes)] at hrun
      injection hrun with _ hw
      subst hw
      exact ⟨hown.1, .inr ⟨g, cap, cur, rfl, hbg, (Below.heap_alloc w.drew _ g (Array.getElem?_eq_some_iff.1 hg).1).trans hg, hnc, hcm, hcs, htake⟩⟩
variable {ops : Array Oper} {rest : List Oper} {o : Oper} {a : Act} {Q : Exit → Act → World → Prop}
/-- append of numbers that lie somewhere: the old slice reads as it did. -/
theorem wpList_pushK (w : World) (hgd : o.guard = none) (s x : Operand) (t : TypeId)
    (ho : o.op = .call { callee := .builtin .append, args := #[s, x], argTypes := #[t, t] })
    (base : Nat) (T : TypeId) (i : TypeInfo) (z : Value) (bytes : Nat) (ht : P.underlying t = some (.slice T)) (hi : P.info? T = some i) (hz : i.zero = some z)
    (hsize : i.size = 1) (hby : i.bytes = bytes) (hzs : z.cells.size = 1)
    (v : Value) (xs ys : List Int) (hs : a.eval s = v) (hown : OwnL w base T (fun _ => False) v xs)
    (ad : Addr) (m c : Nat) (hx : a.eval x = .slice (some ad) m c) (hm : ys.length = m) (hin : ∀ y ∈ ys, InI y) (hnews : ∀ (j : Nat) (y : Int), ys[j]? = some y → w.cell? (ad.add j) = some (.int .i64 y))
    (h63 : xs.length + m ≤ maxLen) (hbytes : (xs.length + m) * bytes ≤ 140737488355328) (hbase : base ≤ w.heap.size)
    (h : ∀ v' w', OwnL w' base T (fun _ => False) v' (xs ++ ys) → OwnL w' base T (fun _ => False) v xs → w.grownBy w' v.ownBlock → (v'.ownBlock = v.ownBlock ∨ v'.ownBlock = some w.heap.size) → wpList P ops Q rest (a.put o.dst v') w') : wpList P ops Q (o :: rest) a w := by
  obtain ⟨vals, hrow, hrep, hapart⟩ := hown
  have hr : RepL w (fun _ => False) ys (ys.map (Value.int .i64)) := RepL.ints ys hin
  have hcells : ∀ j u, (ys.map (Value.int .i64))[j]? = some u → w.cell? (ad.add j) = some u := fun j u hj => by
    rw [List.getElem?_map] at hj
    cases hy : ys[j]? with
    | none => rw [hy] at hj; cases hj
    | some y => rw [hy] at hj; injection hj with hj; rw [← hj]; exact hnews j y hy
  obtain ⟨v', w', hrun, h2, h3, _, h5⟩ := run_append_own_at (P := P) w base t o.type T i z 1 bytes ht hi hz hsize hby hzs (by omega) v xs.length vals hrow ad m c (ys.map (Value.int .i64)) (by rw [List.length_map, hm]; omega) hcells hr.one h63 hbytes hbase
  have hk := append_keeps (P := P) w base t o.type T i z 1 bytes ht hi hz hsize hby v xs.length vals hrow ad m c (ys.map (Value.int .i64)) (by rw [List.length_map, hm]; omega) hcells hr.one h63 hbytes hrun
  refine wpList_plain hgd fun _ hK => ?_
  unfold Oper.wp execOp
  simp only [ho, resolve, invoke, builtin, Sem.run_bind, Sem.run_pure, Result.andThen_ok, List.map_toArray, List.map_cons, List.map_nil, hs, hx, hrun]
  exact hK _ _ (h v' w' ⟨vals ++ ys.map (Value.int .i64), by rw [List.length_append, hm]; exact h2, (RepL.append hrep hr).ints_more, fun _ _ h => h⟩ ⟨vals, hk, hrep.ints_more, fun _ _ h => h⟩ h3 h5)
end

/-! ### rows -/
/-- The marks of a list. -/
def mkL (k n : Nat) : List Int := (List.range n).map fun i : Nat => markI k i
theorem mkL_len (k n : Nat) : (mkL k n).length = n := by simp [mkL]
theorem mkL_at {k n i : Nat} (h : i < n) : (mkL k n)[i]? = some (markI k i) := by simp [mkL, List.getElem?_range h]
theorem mkL_succ (k n : Nat) : mkL k (n + 1) = mkL k n ++ [markI k n] := by unfold mkL; rw [List.range_succ, List.map_append]; rfl
theorem mkL_take (k n m : Nat) (h : m ≤ n) : (mkL k n).take m = mkL k m := by
  unfold mkL
  rw [← List.map_take, List.take_range, Nat.min_eq_left h]
theorem markI_bd {k i : Nat} (hk : k ≤ 100000000) (hi : i ≤ 100000000) : InI (markI k i) := by unfold InI markI; omega
theorem OwnL.pre {w : World} {B : Nat} {T : TypeId} {g n m c : Nat} {xs : List Int} (h : OwnL w B T (fun _ => False) (.slice (some ⟨g, 0, none⟩) n c) xs) (hm : m ≤ n) : OwnL w B T (fun _ => False) (.slice (some ⟨g, 0, none⟩) m c) (xs.take m) := by
  obtain ⟨h1, h2, h3, h4, h5, h6, cur, h7, h8, h9⟩ := h.form_at
  refine OwnL.of_block (by rw [List.length_take]; omega) (by omega) h3 h4 h6 h7 h8 ?_
  have e : cur.toList.take (m * Rep.size Int) = (cur.toList.take (n * Rep.size Int)).take m := by
    rw [List.take_take, show Rep.size Int = 1 from rfl, Nat.mul_one, Nat.mul_one, Nat.min_eq_left hm]
  rw [e]
  have key : ∀ {xs : List Int} {vs : List Value}, RepL w (fun _ => False) xs vs → ∀ m : Nat, RepL w (fun _ => False) (xs.take m) (vs.take m) := by
    intro xs
    induction xs with
    | nil => intro vs h m; have : vs = [] := h; subst this; simp [RepL]
    | cons x l ih =>
      intro vs h m
      obtain ⟨us, ts, rfl, h1, h2⟩ := h
      cases m with
      | zero => simp [RepL]
      | succ m =>
        have hu : us = [.int .i64 x] := h1.1
        subst hu
        exact ⟨[.int .i64 x], ts.take m, rfl, h1, ih h2 m⟩
  exact key h9 m
theorem OwnL.cap_eq {w : World} {B B' : Nat} {T : TypeId} {g n n' c c' : Nat} {xs ys : List Int} (h : OwnL w B T (fun _ => False) (.slice (some ⟨g, 0, none⟩) n c) xs) (h' : OwnL w B' T (fun _ => False) (.slice (some ⟨g, 0, none⟩) n' c') ys) : c = c' := by
  obtain ⟨_, _, _, _, _, _, cur, h7, h8, _⟩ := h.form_at
  obtain ⟨_, _, _, _, _, _, cur', h7', h8', _⟩ := h'.form_at
  rw [h7] at h7'
  injection h7' with h7'
  injection h7' with e
  rw [e, h8'] at h8
  have e1 : Rep.size Int = 1 := rfl
  rw [e1] at h8
  omega
theorem OwnL.own_form {w : World} {B : Nat} {T : TypeId} {v : Value} {xs : List Int} {g : Nat} (h : OwnL w B T (fun _ => False) v xs) (hg : v.ownBlock = some g) : ∃ c, v = .slice (some ⟨g, 0, none⟩) xs.length c := by
  obtain ⟨vals, ⟨l1, l2⟩, hr, ha⟩ := h
  rcases l2 with ⟨rfl, _⟩ | ⟨g', cap, cur, rfl, _⟩
  · cases hg
  · injection hg with hg
    simp only at hg
    subst hg
    exact ⟨cap, rfl⟩
/-- A prefix stays, whatever is appended to a longer slice of the same row. -/
theorem OwnL.prefix_of {w : World} {B : Nat} {T : TypeId} {g n m c c0 : Nat} {xs ys : List Int} (h : OwnL w B T (fun _ => False) (.slice (some ⟨g, 0, none⟩) n c) xs) (hc : c0 = c) (hm : m ≤ n) (hx : xs.take m = ys) : OwnL w B T (fun _ => False) (.slice (some ⟨g, 0, none⟩) m c0) ys := by
  subst hc hx; exact h.pre hm
/-- RowsO of the call's own, each in its block, none in another's. -/
structure RowsO (w : World) (B : Nat) (hs : List Hdr) (f : Nat → List Int) : Prop where
  own : ∀ (k : Nat) (h : Hdr), hs[k]? = some h → OwnL w B 3 (fun _ => False) h.v (f k)
  ne : ∀ (j k : Nat) (x y : Hdr) (g : Nat), hs[j]? = some x → hs[k]? = some y → j ≠ k → x.v.ownBlock = some g → y.v.ownBlock ≠ some g
section
variable {w w' : World} {B : Nat} {hs : List Hdr} {f f' : Nat → List Int}
theorem RowsO.len (R : RowsO w B hs f) {k : Nat} {h : Hdr} (hk : hs[k]? = some h) : (f k).length = h.n := by
  obtain ⟨A, c, e⟩ := (R.own k h hk).form
  injection e with _ e _
  exact e.symm
theorem RowsO.keep (R : RowsO w B hs f) (hs' : w.heap.size ≤ w'.heap.size) (hb : ∀ (k : Nat) (h : Hdr) (g : Nat), hs[k]? = some h → h.v.ownBlock = some g → w'.heap[g]? = w.heap[g]?) : RowsO w' B hs f :=
  ⟨fun k h hk => (R.own k h hk).keep hs' (fun _ hf => hf.elim) fun g hg => hb k h g hk hg, R.ne⟩
theorem RowsO.lt (R : RowsO w B hs f) {k : Nat} {h : Hdr} {g : Nat} (hk : hs[k]? = some h) (hg : h.v.ownBlock = some g) : B ≤ g ∧ g < w.heap.size := (R.own k h hk).below_ g hg
theorem RowsO.belowAll (R : RowsO w B hs f) (hb : Below w.heap.size w w') : RowsO w' B hs f := R.keep hb.size fun _ _ g hk hg => hb.block g (R.lt hk hg).2
theorem RowsO.ext (R : RowsO w B hs f) (u : Ext) : RowsO (w.ext u) B hs f := R.belowAll (Below.of_ext w u (Nat.le_refl _))
theorem RowsO.congr (R : RowsO w B hs f) (h : ∀ (k : Nat) (x : Hdr), hs[k]? = some x → f' k = f k) : RowsO w B hs f' := ⟨fun k x hk => by rw [h k x hk]; exact R.own k x hk, R.ne⟩
/-- One number is written. -/
theorem RowsO.set (R : RowsO w B hs f) {k i : Nat} {h : Hdr} (hk : hs[k]? = some h) (hi : i < h.n) (x : Int) (hx : InI x) : ∃ g, h.a = some ⟨g, 0, none⟩ ∧ B ≤ g ∧ g < w.heap.size ∧ w.frozen? ⟨g, i, none⟩ = false ∧ (∃ y, w.cell? ⟨g, i, none⟩ = some (.int .i64 y)) ∧ h.v.ownBlock = some g ∧ RowsO (w.setCell ⟨g, i, none⟩ (.int .i64 x)) B hs (fun j => if j = k then (f k).set i x else f j) := by
  have hl := R.len hk
  have ho := R.own k h hk
  obtain ⟨vals, ⟨l1, l2⟩, hr, ha⟩ := ho
  rcases l2 with ⟨e, e0⟩ | ⟨g, cap, cur, e, hg, hh, hnc, hcm, hsz, htake⟩
  · omega
  · have ho := R.own k h hk
    have ea : h.a = some ⟨g, 0, none⟩ := by injection e
    have hv : h.v = .slice (some ⟨g, 0, none⟩) h.n h.c := by show Value.slice _ _ _ = _; rw [ea]
    have hob : h.v.ownBlock = some g := by rw [hv]; rfl
    rw [hv] at ho
    obtain ⟨y, hy⟩ : ∃ y, (f k)[i]? = some y := ⟨_, List.getElem?_eq_getElem (by omega)⟩
    obtain ⟨us, hus, hc, hf⟩ := ho.cell_at hy
    have hus' : us = [.int .i64 y] := hus.1
    subst hus'
    have e1 : Rep.size Int = 1 := rfl
    have hset := OwnL.set (y := x) (i := i) (j := 0) (v := .int .i64 x) ho hy (by rw [e1]; omega) (fun us hu => by
      have : us = [.int .i64 y] := hu.1
      subst this
      exact ⟨rfl, hx⟩)
    rw [e1, Nat.mul_one, Nat.add_zero] at hset
    refine ⟨g, ea, hg, (R.lt hk hob).2, hf i, ⟨y, ?_⟩, hob, fun j z hz => ?_, R.ne⟩
    · have := hc 0 _ rfl
      rw [e1, Nat.mul_one, Nat.add_zero] at this
      exact this
    · by_cases hj : j = k
      · subst hj
        rw [hk] at hz
        injection hz with hz
        subst hz
        rw [if_pos rfl, hv]
        exact hset
      · rw [if_neg hj]
        exact (R.own j z hz).setCell (fun h => h) (fun e => R.ne k j h z g hk hz (fun e => hj e.symm) hob e) _
end
end Go.Proofs.Ytbppamjogdjfkaa
