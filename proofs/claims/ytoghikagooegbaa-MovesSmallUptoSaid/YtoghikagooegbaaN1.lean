/- Rows of any elements that name nothing, of the call's own: prefixes, whole elements written, append that keeps the shorter slice. Rows of instructions that lie apart: marks, rows. Rows of instructions that lie apart: what is held of them. Printed by gen_ar3.py. -/
import Derived.Test.YtoghikagooegbaaAP1
import Derived.Test.YtoghikagooegbaaOwn3
import Derived.Test.YtoghikagooegbaaInsN
import Derived.Test.YtoghikagooegbaaAP3
set_option linter.unusedSimpArgs false
set_option linter.unusedVariables false
namespace Go.Proofs.Ytoghikagooegbaa
open Go.RowKit

section
variable {α : Type} [Rep α] {w w' : World} {S : Nat → Prop} {xs ys : List α} {vs : List Value}
theorem RepL.take_ : ∀ {xs : List α} {vs : List Value}, RepL w S xs vs → ∀ m : Nat, RepL w S (xs.take m) (vs.take (m * Rep.size α)) := by
  intro xs
  induction xs with
  | nil => intro vs h m; have : vs = [] := h; subst this; simp [RepL]
  | cons x l ih =>
    intro vs h m
    obtain ⟨us, ts, rfl, h1, h2⟩ := h
    have hl := Rep.len h1
    cases m with
    | zero => simp [RepL]
    | succ m =>
      refine ⟨us, ts.take (m * Rep.size α), ?_, h1, ih h2 m⟩
      rw [show (m + 1) * Rep.size α = us.length + m * Rep.size α by rw [hl, Nat.add_mul]; omega, List.take_append, List.take_of_length_le (by omega), Nat.add_sub_cancel_left]
theorem RepL.setE {y : α} {vals : List Value} (hy : Rep.is w S y vals) : ∀ {xs : List α} {vs : List Value} {i : Nat}, RepL w S xs vs → i < xs.length → RepL w S (xs.set i y) (vs.take (i * Rep.size α) ++ vals ++ vs.drop ((i + 1) * Rep.size α)) := by
  intro xs
  induction xs with
  | nil => intro vs i _ hi; simp at hi
  | cons x l ih =>
    intro vs i h hi
    obtain ⟨us, ts, rfl, h1, h2⟩ := h
    have hl := Rep.len h1
    cases i with
    | zero =>
      refine ⟨vals, ts, ?_, hy, h2⟩
      simp only [Nat.zero_mul, List.take_zero, List.nil_append, Nat.zero_add, Nat.one_mul]
      rw [← hl, List.drop_left]
    | succ i =>
      refine ⟨us, ts.take (i * Rep.size α) ++ vals ++ ts.drop ((i + 1) * Rep.size α), ?_, h1, ih h2 (by simpa using hi)⟩
      have f1 : (us ++ ts).take ((i + 1) * Rep.size α) = us ++ ts.take (i * Rep.size α) := by
        rw [show (i + 1) * Rep.size α = us.length + i * Rep.size α by rw [hl, Nat.add_mul]; omega, List.take_append, List.take_of_length_le (by omega), Nat.add_sub_cancel_left]
      have f2 : (us ++ ts).drop ((i + 1 + 1) * Rep.size α) = ts.drop ((i + 1) * Rep.size α) := by
        rw [show (i + 1 + 1) * Rep.size α = us.length + (i + 1) * Rep.size α by rw [hl, Nat.add_mul (i + 1)]; omega, List.drop_append, List.drop_of_length_le (by omega), Nat.add_sub_cancel_left]
        rfl
      rw [f1, f2]
      simp only [List.append_assoc]
variable {base B B' : Nat} {T : TypeId} {g n n' m c c' c0 : Nat} {v : Value}
theorem OwnL.preR (h : OwnL w B T S (.slice (some ⟨g, 0, none⟩) n c) xs) (hm : m ≤ n) : OwnL w B T S (.slice (some ⟨g, 0, none⟩) m c) (xs.take m) := by
  obtain ⟨h1, h2, h3, h4, h5, h6, cur, h7, h8, h9⟩ := h.form_at
  refine OwnL.of_block (by rw [List.length_take]; omega) (by omega) h3 h4 h6 h7 h8 ?_
  have hle : m * Rep.size α ≤ n * Rep.size α := Nat.mul_le_mul_right _ hm
  have e : cur.toList.take (m * Rep.size α) = (cur.toList.take (n * Rep.size α)).take (m * Rep.size α) := by
    rw [List.take_take, Nat.min_eq_left hle]
  rw [e]
  exact h9.take_ m
theorem OwnL.cap_eqR (hp : 0 < Rep.size α) (h : OwnL w B T S (.slice (some ⟨g, 0, none⟩) n c) xs) (h' : OwnL w B' T S (.slice (some ⟨g, 0, none⟩) n' c') ys) : c = c' := by
  obtain ⟨_, _, _, _, _, _, cur, h7, h8, _⟩ := h.form_at
  obtain ⟨_, _, _, _, _, _, cur', h7', h8', _⟩ := h'.form_at
  rw [h7] at h7'
  injection h7' with h7'
  injection h7' with e
  rw [e, h8'] at h8
  exact (Nat.eq_of_mul_eq_mul_right hp h8).symm
theorem OwnL.own_formR (h : OwnL w B T S v xs) (hg : v.ownBlock = some g) : ∃ c, v = .slice (some ⟨g, 0, none⟩) xs.length c := by
  obtain ⟨vals, ⟨l1, l2⟩, hr, ha⟩ := h
  rcases l2 with ⟨rfl, _⟩ | ⟨g', cap, cur, rfl, _⟩
  · cases hg
  · injection hg with hg
    simp only at hg
    subst hg
    exact ⟨cap, rfl⟩
theorem OwnL.prefix_ofR (h : OwnL w B T S (.slice (some ⟨g, 0, none⟩) n c) xs) (hc : c0 = c) (hm : m ≤ n) (hx : xs.take m = ys) : OwnL w B T S (.slice (some ⟨g, 0, none⟩) m c0) ys := by
  subst hc hx; exact h.preR hm
/-- A whole element is written. -/
theorem OwnL.setE {i : Nat} {y : α} {vals : List Value} (h : OwnL w base T S (.slice (some ⟨g, 0, none⟩) n c) xs) (hi : i < n) (hy : Rep.is w S y vals) :
    OwnL (w.setCells g (i * Rep.size α) vals) base T S (.slice (some ⟨g, 0, none⟩) n c) (xs.set i y) := by
  obtain ⟨h1, h2, h3, h4, hg, h5, cur, h6, h7, h8⟩ := h.form_at
  have hl := Rep.len hy
  have e1 : (i + 1) * Rep.size α ≤ n * Rep.size α := Nat.mul_le_mul_right _ hi
  have e2 : (i + 1) * Rep.size α = i * Rep.size α + Rep.size α := by rw [Nat.add_mul]; omega
  have hs : n * Rep.size α ≤ cur.size := by rw [h7]; exact Nat.mul_le_mul_right _ h2
  refine OwnL.of_block (cur := arrSet cur (i * Rep.size α) vals) (by simpa using h1) h2 h3 h4 h5 (heap_setCells_same vals _ w cur h6) (by rw [arrSet_size, h7]) ?_
  rw [arrSet_list _ _ _ (by omega)]
  have ht : (cur.toList.take (i * Rep.size α) ++ vals ++ cur.toList.drop (i * Rep.size α + vals.length)).take (n * Rep.size α) = (cur.toList.take (n * Rep.size α)).take (i * Rep.size α) ++ vals ++ (cur.toList.take (n * Rep.size α)).drop ((i + 1) * Rep.size α) := by
    have hl1 : (cur.toList.take (i * Rep.size α) ++ vals).length = (i + 1) * Rep.size α := by rw [List.length_append, List.length_take, Array.length_toList, hl]; omega
    rw [List.take_append, List.take_of_length_le (by omega), hl1, List.take_take, Nat.min_eq_left (by omega), hl, ← e2, ← List.drop_take]
  rw [ht]
  exact (h8.setE hy (by omega)).keep (by rw [size_setCells']; exact Nat.le_refl _) fun b hb hlt => (setCells_grown g vals _ w).block b hlt (fun e => by injection e with e; exact h5 (e ▸ hb))
end
section
variable {P : Program} {α : Type} [Rep α] {ops : Array Oper} {rest : List Oper} {o : Oper} {a : Act} {Q : Exit → Act → World → Prop}
/-- append of elements that lie somewhere: the old slice reads as it did. -/
theorem wpList_pushR (w : World) (hgd : o.guard = none) (s x : Operand) (t : TypeId)
    (ho : o.op = .call { callee := .builtin .append, args := #[s, x], argTypes := #[t, t] })
    (base : Nat) (T : TypeId) (i : TypeInfo) (z : Value) (bytes : Nat) (ht : P.underlying t = some (.slice T)) (hi : P.info? T = some i) (hz : i.zero = some z)
    (hsize : i.size = Rep.size α) (hby : i.bytes = bytes) (hzs : z.cells.size = Rep.size α) (hsz : 0 < Rep.size α)
    (v : Value) (xs ys : List α) (us : List Value) (hs : a.eval s = v) (hown : OwnL w base T (fun _ => False) v xs)
    (ad : Addr) (m c : Nat) (hx : a.eval x = .slice (some ad) m c) (hm : ys.length = m) (hr : RepL w (fun _ => False) ys us) (hnews : ∀ (j : Nat) (u : Value), us[j]? = some u → w.cell? (ad.add j) = some u)
    (h63 : xs.length + m ≤ maxLen) (hbytes : (xs.length + m) * bytes ≤ 140737488355328) (hbase : base ≤ w.heap.size)
    (h : ∀ v' w', OwnL w' base T (fun _ => False) v' (xs ++ ys) → OwnL w' base T (fun _ => False) v xs → w.grownBy w' v.ownBlock → (v'.ownBlock = v.ownBlock ∨ v'.ownBlock = some w.heap.size) → wpList P ops Q rest (a.put o.dst v') w') : wpList P ops Q (o :: rest) a w := by
  obtain ⟨vals, hrow, hrep, hapart⟩ := hown
  have hul : us.length = m * Rep.size α := by rw [RepL.len hr, hm]
  obtain ⟨v', w', hrun, h2, h3, _, h5⟩ := run_append_own_at (P := P) w base t o.type T i z (Rep.size α) bytes ht hi hz hsize hby hzs hsz v xs.length vals hrow ad m c us hul hnews hr.one h63 hbytes hbase
  have hk := append_keeps (P := P) w base t o.type T i z (Rep.size α) bytes ht hi hz hsize hby v xs.length vals hrow ad m c us hul hnews hr.one h63 hbytes hrun
  refine wpList_plain hgd fun _ hK => ?_
  unfold Oper.wp execOp
  simp only [ho, resolve, invoke, builtin, Sem.run_bind, Sem.run_pure, Result.andThen_ok, List.map_toArray, List.map_cons, List.map_nil, hs, hx, hrun]
  exact hK _ _ (h v' w' ⟨vals ++ us, by rw [List.length_append, hm]; exact h2, (RepL.append hrep hr).keep h3.size fun _ hf => hf.elim, fun _ _ h => h⟩ ⟨vals, hk, hrep.keep h3.size fun _ hf => hf.elim, fun _ _ h => h⟩ h3 h5)
end
end Go.Proofs.Ytoghikagooegbaa
set_option linter.unusedSimpArgs false
set_option linter.unusedVariables false
namespace Go.Proofs.Ytoghikagooegbaa
open Go.RowKit

/-- A marked instruction. -/
def markR (k i : Int) : Ins := ⟨0, 0, 0, 0, markI k i, 0, [], 0⟩
abbrev cellsR (m : Int) : List Value := [.int .i64 0, .int .i64 0, .int .i64 0, .int .i64 0, .int .i64 m, .int .i64 0, .slice none 0 0, .int .i64 0]
theorem cells_markR (k i : Int) : cellsN (markR k i) = cellsR (markI k i) := rfl
theorem markR_ok {k i : Int} (h : InI (markI k i)) : OkN (markR k i) :=
  ⟨ini_ (k := 0) (by omega), ini_ (k := 0) (by omega), ini_ (k := 0) (by omega), ini_ (k := 0) (by omega), h, ini_ (k := 0) (by omega), rfl, ini_ (k := 0) (by omega)⟩
/-- The marks of a row. -/
def mkR (k n : Nat) : List Ins := (List.range n).map fun i : Nat => markR k i
theorem mkR_len (k n : Nat) : (mkR k n).length = n := by simp [mkR]
theorem mkR_at {k n i : Nat} (h : i < n) : (mkR k n)[i]? = some (markR k i) := by simp [mkR, List.getElem?_range h]
theorem mkR_succ (k n : Nat) : mkR k (n + 1) = mkR k n ++ [markR k n] := by unfold mkR; rw [List.range_succ, List.map_append]; rfl
theorem mkR_take (k n m : Nat) (h : m ≤ n) : (mkR k n).take m = mkR k m := by
  unfold mkR
  rw [← List.map_take, List.take_range, Nat.min_eq_left h]
theorem setR_succ {xs : List Ins} {i : Nat} {x : Ins} (hi : i < xs.length) : (xs.set i x).take (i + 1) = xs.take i ++ [x] := by
  rw [List.take_add_one, List.take_set_of_le (Nat.le_refl i), List.getElem?_set_self hi]; rfl
section
variable {P : Program} {ops : Array Oper} {rest : List Oper} {o : Oper} {a : Act} {Q : Exit → Act → World → Prop}
/-- A whole struct is stored, somewhere in a row. -/
theorem wpList_store_mid (w : World) (hgd : o.guard = none) (ty : TypeId) (x y : Operand) (ho : o.op = .store ty x y) (g off : Nat) (vs : Array Value) (hx : a.eval x = .pointer (some ⟨g, off, none⟩)) (hy : a.eval y = .agg vs)
    (ht : w.there g off vs.size) (hi : (P.info? ty).map (·.size) = some vs.size) (h1 : vs.all (·.oneCell') = true)
    (h : wpList P ops Q rest (a.put o.dst undef) (w.setCells g off vs.toList)) : wpList P ops Q (o :: rest) a w := by
  have hr := run_storeVar_mid (P := P) w g off ty vs ht hi h1
  refine wpList_plain hgd fun _ hK => ?_
  unfold Oper.wp execOp
  simp only [ho, hx, hy, Instr.storeAt, Instr.sureAddr, Sem.run_bind, Sem.run_pure, Result.andThen_ok, hr]
  exact hK _ _ h
end
attribute [local instance] repInsN
/-- Rows of instructions of the call's own, each in its block, none in another's. -/
structure RowsR (w : World) (B : Nat) (hs : List Hdr) (f : Nat → List Ins) : Prop where
  own : ∀ (k : Nat) (h : Hdr), hs[k]? = some h → OwnL w B 54 (fun _ => False) h.v (f k)
  ne : ∀ (j k : Nat) (x y : Hdr) (g : Nat), hs[j]? = some x → hs[k]? = some y → j ≠ k → x.v.ownBlock = some g → y.v.ownBlock ≠ some g
theorem size_InsN : Rep.size Ins = 8 := rfl
theorem OwnL.thereR {w : World} {B : Nat} {g n c : Nat} {xs : List Ins} (h : OwnL w B 54 (fun _ => False) (.slice (some ⟨g, 0, none⟩) n c) xs) {i : Nat} (hi : i < n) : w.there g (i * 8) 8 := by
  obtain ⟨h1, h2, h3, h4, h5, h6, cur, h7, h8, h9⟩ := h.form_at
  rw [size_InsN] at h8
  intro j hj
  have hlt : i * 8 + j < cur.size := by omega
  refine ⟨?_, ?_⟩
  · simp [World.cell?, h7, hlt]
  · simp [World.frozen?, h7]
section
variable {w w' : World} {B : Nat} {hs : List Hdr} {f f' : Nat → List Ins}
theorem RowsR.len (R : RowsR w B hs f) {k : Nat} {h : Hdr} (hk : hs[k]? = some h) : (f k).length = h.n := by
  obtain ⟨A, c, e⟩ := (R.own k h hk).form
  injection e with _ e _
  exact e.symm
theorem RowsR.keep (R : RowsR w B hs f) (hs' : w.heap.size ≤ w'.heap.size) (hb : ∀ (k : Nat) (h : Hdr) (g : Nat), hs[k]? = some h → h.v.ownBlock = some g → w'.heap[g]? = w.heap[g]?) : RowsR w' B hs f :=
  ⟨fun k h hk => (R.own k h hk).keep hs' (fun _ hf => hf.elim) fun g hg => hb k h g hk hg, R.ne⟩
theorem RowsR.lt (R : RowsR w B hs f) {k : Nat} {h : Hdr} {g : Nat} (hk : hs[k]? = some h) (hg : h.v.ownBlock = some g) : B ≤ g ∧ g < w.heap.size := (R.own k h hk).below_ g hg
theorem RowsR.belowAll (R : RowsR w B hs f) (hb : Below w.heap.size w w') : RowsR w' B hs f := R.keep hb.size fun _ _ g hk hg => hb.block g (R.lt hk hg).2
theorem RowsR.ext (R : RowsR w B hs f) (u : Ext) : RowsR (w.ext u) B hs f := R.belowAll (Below.of_ext w u (Nat.le_refl _))
theorem RowsR.congr (R : RowsR w B hs f) (h : ∀ (k : Nat) (x : Hdr), hs[k]? = some x → f' k = f k) : RowsR w B hs f' := ⟨fun k x hk => by rw [h k x hk]; exact R.own k x hk, R.ne⟩
/-- One instruction is written. -/
theorem RowsR.set (R : RowsR w B hs f) {k i : Nat} {h : Hdr} (hk : hs[k]? = some h) (hi : i < h.n) (x : Ins) (hx : OkN x) : ∃ g, h.a = some ⟨g, 0, none⟩ ∧ B ≤ g ∧ g < w.heap.size ∧ w.there g (i * 8) 8 ∧ h.v.ownBlock = some g ∧ RowsR (w.setCells g (i * 8) (cellsN x)) B hs (fun j => if j = k then (f k).set i x else f j) := by
  have hl := R.len hk
  have ho := R.own k h hk
  obtain ⟨vals, ⟨l1, l2⟩, hr, ha⟩ := ho
  rcases l2 with ⟨e, e0⟩ | ⟨g, cap, cur, e, hg, hh, hnc, hcm, hsz, htake⟩
  · omega
  · have ho := R.own k h hk
    have ea : h.a = some ⟨g, 0, none⟩ := by injection e
    have hv : h.v = .slice (some ⟨g, 0, none⟩) h.n h.c := by show Value.slice _ _ _ = _; rw [ea]
    have hob : h.v.ownBlock = some g := by rw [hv]; rfl
    rw [hv] at ho
    have hset := ho.setE hi (show Rep.is w (fun _ => False) x (cellsN x) from ⟨rfl, hx⟩)
    rw [size_InsN] at hset
    have hg2 := setCells_grown g (cellsN x) (i * 8) w
    refine ⟨g, ea, hg, (R.lt hk hob).2, ho.thereR hi, hob, ?_⟩
    obtain ⟨W, hW⟩ : ∃ W, w.setCells g (i * 8) (cellsN x) = W := ⟨_, rfl⟩
    rw [hW] at hset hg2 ⊢
    clear hW
    refine ⟨fun j z hz => ?_, R.ne⟩
    by_cases hj : j = k
    · subst hj
      rw [hk] at hz
      injection hz with hz
      subst hz
      rw [if_pos rfl, hv]
      exact hset
    · rw [if_neg hj]
      exact (R.own j z hz).keep hg2.size (fun _ hf => hf.elim) fun g' hg' => hg2.block g' (R.lt hz hg').2 (fun e => by injection e with e; subst e; exact R.ne j k z h g' hz hk hj hg' hob)
/-- A whole instruction in a row. -/
theorem at_InsN {S : Nat → Prop} {n c : Nat} {A : Option Addr} {xs : List Ins} (h : Sl w S A n c xs) {k : Nat} (hk : k < n) :
    ∃ b off x, A = some ⟨b, off, none⟩ ∧ b < w.heap.size ∧ xs[k]? = some x ∧ OkN x ∧ ∀ j u, (cellsN x)[j]? = some u → w.cell? ⟨b, off + (k * 8 + j), none⟩ = some u := by
  obtain ⟨b, off, x, us, e, hb, hS, hx, hus, hc⟩ := h.at_ hk
  obtain ⟨rfl, h2⟩ := hus
  exact ⟨b, off, x, e, hb, hx, h2, hc⟩
end
end Go.Proofs.Ytoghikagooegbaa
set_option linter.unusedSimpArgs false
set_option linter.unusedVariables false
namespace Go.Proofs.Ytoghikagooegbaa
open Go.RowKit
attribute [local instance] repInsN

/-- What is held all along: the lists as they lie, their rows, what lies below. -/
structure FlatR (w0 w : World) (B : Nat) (S : Nat → Prop) (A : Option Addr) (n c : Nat) (hs : List Hdr) (f : Nat → List Ins) : Prop where
  ls : Sl w S A n c hs
  rows : RowsR w B hs f
  nS : ∀ (k : Nat) (h : Hdr) (g : Nat), hs[k]? = some h → h.v.ownBlock = some g → ¬ S g
  bel : Below B w0 w
  Sb : ∀ b, S b → b < w0.heap.size
  kp : ∀ b, S b → w.heap[b]? = w0.heap[b]?
section
variable {w0 w w' : World} {B : Nat} {S : Nat → Prop} {A : Option Addr} {n c : Nat} {hs : List Hdr} {f f' : Nat → List Ins}
theorem FlatR.belowAll (h : FlatR w0 w B S A n c hs f) (hB : B ≤ w.heap.size) (hb : Below w.heap.size w w') : FlatR w0 w' B S A n c hs f :=
  ⟨h.ls.belowAll hb, h.rows.belowAll hb, h.nS, h.bel.trans (hb.mono hB), h.Sb, fun b hS => (hb.block b (by have := h.Sb b hS; have := h.bel.size; omega)).trans (h.kp b hS)⟩
theorem FlatR.ext (h : FlatR w0 w B S A n c hs f) (hB : B ≤ w.heap.size) (u : Ext) : FlatR w0 (w.ext u) B S A n c hs f := h.belowAll hB (Below.of_ext w u (Nat.le_refl _))
theorem FlatR.sz (h : FlatR w0 w B S A n c hs f) : w0.heap.size ≤ w.heap.size := h.bel.size
/-- What is written to one list's row. -/
theorem FlatR.grownR (F : FlatR w0 w B S A n c hs f) {row : Option Nat} (hg : w.grownBy w' row) (hS : ∀ g, row = some g → ¬ S g) (hB : ∀ g, row = some g → B ≤ g) (hBw : B ≤ w.heap.size) (hr : RowsR w' B hs f') : FlatR w0 w' B S A n c hs f' :=
  ⟨F.ls.keep hg.size fun b hb hlt => hg.block b hlt (fun e => hS b e.symm hb), hr, F.nS, F.bel.grown hg hBw hB, F.Sb, fun b hb => (hg.block b (by have := F.Sb b hb; have := F.bel.size; omega) (fun e => hS b e.symm hb)).trans (F.kp b hb)⟩
/-- One instruction is written. -/
theorem FlatR.set (F : FlatR w0 w B S A n c hs f) {k i : Nat} {h : Hdr} (hk : hs[k]? = some h) (hi : i < h.n) (x : Ins) (hx : OkN x) (hBw : B ≤ w.heap.size) : ∃ g, h.a = some ⟨g, 0, none⟩ ∧ g < w.heap.size ∧ w.there g (i * 8) 8 ∧ FlatR w0 (w.setCells g (i * 8) (cellsN x)) B S A n c hs (fun j => if j = k then (f k).set i x else f j) := by
  obtain ⟨g, h1, h2, h3, h4, h6, h7⟩ := F.rows.set hk hi x hx
  refine ⟨g, h1, h3, h4, F.grownR (setCells_grown g _ _ w) (fun g' e => ?_) (fun g' e => ?_) hBw h7⟩
  · injection e with e; subst e; exact F.nS k h _ hk h6
  · injection e with e; subst e; exact h2
/-- What is appended, to one list's row or to blocks made since. -/
theorem FlatR.grown (F : FlatR w0 w B S A n c hs f) {row : Option Nat} (hg : w.grownBy w' row) (hS : ∀ g, row = some g → ¬ S g) (hB : ∀ g, row = some g → B ≤ g) (hBw : B ≤ w.heap.size)
    (ho : ∀ (k : Nat) (h : Hdr) (g : Nat), hs[k]? = some h → h.v.ownBlock = some g → row = some g → OwnL w' B 54 (fun _ => False) h.v (f k)) : FlatR w0 w' B S A n c hs f := by
  refine ⟨F.ls.keep hg.size fun b hb hlt => hg.block b hlt (fun e => hS b e.symm hb), ⟨fun k h hk => ?_, F.rows.ne⟩, F.nS, F.bel.grown hg hBw hB, F.Sb, fun b hb => (hg.block b (by have := F.Sb b hb; have := F.bel.size; omega) (fun e => hS b e.symm hb)).trans (F.kp b hb)⟩
  by_cases hr : ∃ g, h.v.ownBlock = some g ∧ row = some g
  · obtain ⟨g, h1, h2⟩ := hr
    exact ho k h g hk h1 h2
  · exact (F.rows.own k h hk).keep hg.size (fun _ hf => hf.elim) fun g hg' => hg.block g ((F.rows.own k h hk).below_ g hg').2 (fun e => hr ⟨g, hg', e.symm⟩)
end
/-- The marks that each list holds. -/
def MKR (hs : List Hdr) : Nat → List Ins := fun j => mkR j ((hs[j]?.map Hdr.n).getD 0)
theorem MKR_at {hs : List Hdr} {k : Nat} {h : Hdr} (hk : hs[k]? = some h) : MKR hs k = mkR k h.n := by unfold MKR; rw [hk]; rfl
/-- Slices in a row of their own. -/
structure GsR (w : World) (gb : Nat) (us : List Hdr) : Prop where
  row : w.heap[gb]? = some (.cells (us.map Hdr.v).toArray 24 (0, 0))
theorem GsR.lt {w : World} {gb : Nat} {us : List Hdr} (h : GsR w gb us) : gb < w.heap.size := (Array.getElem?_eq_some_iff.1 h.row).1
theorem GsR.cell {w : World} {gb k : Nat} {us : List Hdr} {u : Hdr} (h : GsR w gb us) (hk : us[k]? = some u) : w.cell? ⟨gb, k, none⟩ = some (.slice u.a u.n u.c) := by
  rw [World.cell?, h.row]
  simp [hk]
theorem GsR.fz {w : World} {gb : Nat} {us : List Hdr} (h : GsR w gb us) (k : Nat) : w.frozen? ⟨gb, k, none⟩ = false := by simp [World.frozen?, h.row]
theorem GsR.set {w : World} {gb : Nat} {us : List Hdr} (h : GsR w gb us) (k : Nat) (u : Hdr) : GsR (w.setCell ⟨gb, k, none⟩ u.v) gb (us.set k u) := ⟨by rw [row_setA h.row]; simp [List.map_set]⟩
theorem GsR.keep {w w' : World} {gb : Nat} {us : List Hdr} (h : GsR w gb us) (hb : w'.heap[gb]? = w.heap[gb]?) : GsR w' gb us := ⟨hb.trans h.row⟩
/-- The lists, and the longer ones that the first k have been made of. -/
structure Q2 (w0 w : World) (B : Nat) (S : Nat → Prop) (A : Option Addr) (n c : Nat) (hs : List Hdr) (gb B2 k : Nat) (us : List Hdr) : Prop where
  F : FlatR w0 w B S A n c hs (MKR hs)
  G : GsR w gb us
  ul : us.length = n
  u : ∀ (j : Nat) (h : Hdr), j < k → hs[j]? = some h → ∃ u, us[j]? = some u ∧ OwnL w B 54 (fun _ => False) u.v (mkR j (h.n + 64)) ∧ (u.v.ownBlock = h.v.ownBlock ∨ ∃ g, u.v.ownBlock = some g ∧ B2 ≤ g)
  b2 : gb < B2 ∧ B2 ≤ w.heap.size ∧ w0.heap.size ≤ gb ∧ B ≤ gb
  hb : ∀ (k : Nat) (h : Hdr) (g : Nat), hs[k]? = some h → h.v.ownBlock = some g → g < gb
structure Q3 (w0 w : World) (B : Nat) (S : Nat → Prop) (A : Option Addr) (n c : Nat) (hs : List Hdr) (gb B2 B3 k : Nat) (us : List Hdr) (h : Hdr) (i : Nat) (gv : Hdr) : Prop where
  g : Q2 w0 w B S A n c hs gb B2 k us
  hk : hs[k]? = some h
  o : OwnL w B 54 (fun _ => False) gv.v (mkR k (h.n + i))
  ob : gv.v.ownBlock = h.v.ownBlock ∨ ∃ g, gv.v.ownBlock = some g ∧ B3 ≤ g
  ub : ∀ (j : Nat) (u : Hdr) (g : Nat), j < k → us[j]? = some u → u.v.ownBlock = some g → g < B3
  b3 : B2 ≤ B3 ∧ B3 ≤ w.heap.size
section
variable {w0 w w' : World} {B : Nat} {S : Nat → Prop} {A : Option Addr} {n c : Nat} {hs : List Hdr} {gb B2 B3 k i : Nat} {us : List Hdr} {h gv : Hdr}
theorem Q2.belowAll (H : Q2 w0 w B S A n c hs gb B2 k us) (hb : Below w.heap.size w w') : Q2 w0 w' B S A n c hs gb B2 k us where
  F := H.F.belowAll (by have := H.b2; omega) hb
  G := H.G.keep (hb.block gb H.G.lt)
  ul := H.ul
  u := fun j h hj hh => by
    obtain ⟨u, h1, h2, h3⟩ := H.u j h hj hh
    exact ⟨u, h1, h2.keep hb.size (fun _ hf => hf.elim) fun g hg => hb.block g (h2.below_ g hg).2, h3⟩
  b2 := by have := H.b2; have := hb.size; omega
  hb := H.hb
theorem Q3.belowAll (H : Q3 w0 w B S A n c hs gb B2 B3 k us h i gv) (hb : Below w.heap.size w w') : Q3 w0 w' B S A n c hs gb B2 B3 k us h i gv where
  g := H.g.belowAll hb
  hk := H.hk
  o := H.o.keep hb.size (fun _ hf => hf.elim) fun g hg => hb.block g (H.o.below_ g hg).2
  ob := H.ob
  ub := H.ub
  b3 := by have := H.b3; have := hb.size; omega
/-- The row that is appended to is no other's. -/
theorem Q3.row_ne (H : Q3 w0 w B S A n c hs gb B2 B3 k us h i gv) : (∀ g, gv.v.ownBlock = some g → g ≠ gb ∧ ¬ S g) ∧ (∀ (j : Nat) (u : Hdr) (g : Nat), j < k → us[j]? = some u → u.v.ownBlock = some g → gv.v.ownBlock ≠ some g) := by
  have hkl := (List.getElem?_eq_some_iff.1 H.hk).1
  refine ⟨fun g hg => ?_, fun j u g hj hu hg e => ?_⟩
  · rcases H.ob with e | ⟨g', e, hle⟩
    · rw [e] at hg
      have := H.g.hb k h g H.hk hg
      exact ⟨by omega, H.g.F.nS k h g H.hk hg⟩
    · rw [hg] at e
      injection e with e
      subst e
      have := H.g.b2; have := H.b3
      exact ⟨by omega, fun hs => by have := H.g.F.Sb _ hs; omega⟩
  · have h1 := H.ub j u g hj hu hg
    rcases H.ob with e' | ⟨g', e', hle⟩
    · rw [e'] at e
      have h2 := H.g.hb k h g H.hk e
      obtain ⟨hj', hjj⟩ : ∃ hj', hs[j]? = some hj' := ⟨_, List.getElem?_eq_getElem (by omega)⟩
      obtain ⟨u', hu', _, ho⟩ := H.g.u j hj' hj hjj
      rw [hu] at hu'
      injection hu' with hu'
      subst hu'
      rcases ho with ho | ⟨g2, ho, hle⟩
      · rw [hg] at ho
        exact H.g.F.rows.ne j k hj' h g hjj H.hk (by omega) ho.symm e
      · rw [hg] at ho
        injection ho with ho
        have := H.g.b2
        omega
    · rw [e] at e'
      injection e' with e'
      omega
theorem Q3.push {v' : Value} (H : Q3 w0 w B S A n c hs gb B2 B3 k us h i gv) (ho : OwnL w' B 54 (fun _ => False) v' (mkR k (h.n + i) ++ [markR k ((h.n + i : Nat) : Int)])) (hk' : OwnL w' B 54 (fun _ => False) gv.v (mkR k (h.n + i)))
    (hg : w.grownBy w' gv.v.ownBlock) (h5 : v'.ownBlock = gv.v.ownBlock ∨ v'.ownBlock = some w.heap.size) : ∃ gv' : Hdr, v' = gv'.v ∧ Q3 w0 w' B S A n c hs gb B2 B3 k us h (i + 1) gv' := by
  obtain ⟨r1, r2⟩ := H.row_ne
  obtain ⟨A', c', e⟩ := ho.form
  refine ⟨⟨A', _, c'⟩, e, ?_⟩
  rw [← mkR_succ] at ho
  have hbw : B ≤ w.heap.size := by have := H.g.b2; have := H.g.F.sz; omega
  refine ⟨⟨H.g.F.grown hg (fun g hg => (r1 g hg).2) (fun g hg => (H.o.below_ g hg).1) hbw ?_, H.g.G.keep (hg.block gb H.g.G.lt (fun e => (r1 gb e.symm).1 rfl)), H.g.ul, fun j hj hjk hjj => ?_, by have := H.g.b2; have := hg.size; omega, H.g.hb⟩, H.hk, by show OwnL w' B _ _ (Value.slice A' _ c') _; rw [← e]; exact ho, ?_, H.ub, by have := H.b3; have := hg.size; omega⟩
  · intro k' h' g hh' hob hrow
    have hkk : k' = k := by
      refine Classical.byContradiction fun hne => ?_
      rcases H.ob with e' | ⟨g', e', hle⟩
      · rw [e'] at hrow
        exact H.g.F.rows.ne k' k h' h g hh' H.hk hne hob hrow
      · rw [hrow] at e'
        injection e' with e'
        have := H.g.hb k' h' g hh' hob; have := H.g.b2; have := H.b3
        omega
    subst hkk
    rw [H.hk] at hh'
    injection hh' with hh'
    subst hh'
    rw [MKR_at H.hk]
    obtain ⟨cg, eg⟩ := hk'.own_formR hrow
    have hw := H.g.F.rows.own k' h H.hk
    obtain ⟨ch, eh⟩ := hw.own_formR hob
    have ow := H.o
    rw [eg] at hk' ow
    rw [eh] at hw
    have hcc := OwnL.cap_eqR (by decide) hw ow
    rw [eh]
    rw [MKR_at H.hk, mkR_len]
    rw [mkR_len] at hk'
    exact hk'.prefix_ofR hcc (by omega) (mkR_take _ _ _ (by omega))
  · obtain ⟨u, hu, hou, hob⟩ := H.g.u j hj hjk hjj
    exact ⟨u, hu, hou.keep hg.size (fun _ hf => hf.elim) fun g hg' => hg.block g (hou.below_ g hg').2 (fun e => r2 j u g hjk hu hg' e.symm), hob⟩
  · rcases h5 with h5 | h5
    · rw [e] at h5
      rcases H.ob with e' | e'
      · exact .inl (h5.trans e')
      · obtain ⟨g', e1, e2⟩ := e'
        exact .inr ⟨g', h5.trans e1, e2⟩
    · rw [e] at h5
      exact .inr ⟨_, h5, by have := H.b3; omega⟩
/-- A longer list is kept. -/
theorem Q3.store (H : Q3 w0 w B S A n c hs gb B2 B3 k us h 64 gv) : Q2 w0 (w.setCell ⟨gb, k, none⟩ gv.v) B S A n c hs gb B2 (k + 1) (us.set k gv) := by
  obtain ⟨r1, r2⟩ := H.row_ne
  have hb2 := H.g.b2
  have hkl := (List.getElem?_eq_some_iff.1 H.hk).1
  have hln := H.g.F.ls.len
  refine ⟨⟨H.g.F.ls.setCell (fun hs => by have := H.g.F.Sb _ hs; simp at this; omega) _, ⟨fun j x hj => (H.g.F.rows.own j x hj).setCell (fun e => e) (fun e => by have := H.g.hb j x _ hj e; simp at this) _, H.g.F.rows.ne⟩, H.g.F.nS, H.g.F.bel.setCell (by show B ≤ gb; omega) _, H.g.F.Sb, fun b hb => (Below.heap_setCell w _ _ b (fun e => by have := H.g.F.Sb b hb; simp at e; omega)).trans (H.g.F.kp b hb)⟩, H.g.G.set k gv, by rw [List.length_set]; exact H.g.ul, fun j hj hjk hjj => ?_, by simp; omega, H.g.hb⟩
  by_cases e : j = k
  · subst e
    rw [H.hk] at hjj
    injection hjj with hjj
    subst hjj
    refine ⟨gv, List.getElem?_set_self (by rw [H.g.ul]; omega), H.o.setCell (fun e => e) (fun e => (r1 gb e).1 rfl) _, ?_⟩
    rcases H.ob with h1 | ⟨g', h1, h2⟩
    · exact .inl h1
    · exact .inr ⟨g', h1, by have := H.b3; omega⟩
  · obtain ⟨u, hu, hou, hob⟩ := H.g.u j hj (by omega) hjj
    refine ⟨u, by rw [List.getElem?_set_ne (fun e' => e e'.symm)]; exact hu, hou.setCell (fun e => e) (fun e' => ?_) _, hob⟩
    rcases hob with h1 | ⟨g', h1, h2⟩
    · rw [h1] at e'
      have := H.g.hb j hj _ hjj e'
      simp at this
    · rw [h1] at e'
      injection e' with e'
      simp at e'
      omega
end
/-- The lists, and what the first k with more behind them are. -/
structure Q4 (w0 w : World) (B : Nat) (S : Nat → Prop) (A : Option Addr) (n c : Nat) (hs : List Hdr) (gb B4 k : Nat) (us : List Hdr) : Prop where
  F : FlatR w0 w B S A n c hs (MKR hs)
  G : GsR w gb us
  ul : us.length = n
  u : ∀ (j : Nat) (h : Hdr), j < k → hs[j]? = some h → ∃ u ys, us[j]? = some u ∧ OwnL w B 54 (fun _ => False) u.v (mkR j h.n ++ ys) ∧ (u.v.ownBlock = h.v.ownBlock ∨ ∃ g, u.v.ownBlock = some g ∧ B4 ≤ g)
  b4 : gb < B4 ∧ B4 ≤ w.heap.size ∧ w0.heap.size ≤ gb ∧ B ≤ gb
  hb : ∀ (k : Nat) (h : Hdr) (g : Nat), hs[k]? = some h → h.v.ownBlock = some g → g < gb
section
variable {w0 w w' : World} {B : Nat} {S : Nat → Prop} {A : Option Addr} {n c : Nat} {hs : List Hdr} {gb B4 k : Nat} {us : List Hdr} {h : Hdr}
theorem Q4.belowAll (H : Q4 w0 w B S A n c hs gb B4 k us) (hb : Below w.heap.size w w') : Q4 w0 w' B S A n c hs gb B4 k us where
  F := H.F.belowAll (by have := H.b4; omega) hb
  G := H.G.keep (hb.block gb H.G.lt)
  ul := H.ul
  u := fun j h hj hh => by
    obtain ⟨u, ys, h1, h2, h3⟩ := H.u j h hj hh
    exact ⟨u, ys, h1, h2.keep hb.size (fun _ hf => hf.elim) fun g hg => hb.block g (h2.below_ g hg).2, h3⟩
  b4 := by have := H.b4; have := hb.size; omega
  hb := H.hb
/-- What is written to a block made since. -/
theorem Q4.above (H : Q4 w0 w B S A n c hs gb B4 k us) (hb : Below w.heap.size w w') {x : Addr} (hx : w.heap.size ≤ x.block) (v : Value) : Q4 w0 (w'.setCell x v) B S A n c hs gb B4 k us :=
  H.belowAll (hb.setCell hx v)
theorem Q4.push {v' : Value} {ys : List Ins} (H : Q4 w0 w B S A n c hs gb B4 k us) (hkn : k < n) (hk : hs[k]? = some h) (ho : OwnL w' B 54 (fun _ => False) v' (mkR k h.n ++ ys)) (hk' : OwnL w' B 54 (fun _ => False) h.v (mkR k h.n))
    (hg : w.grownBy w' h.v.ownBlock) (h5 : v'.ownBlock = h.v.ownBlock ∨ v'.ownBlock = some w.heap.size) : ∃ gv : Hdr, v' = gv.v ∧ (∃ u0 : Hdr, w'.cell? ⟨gb, k, none⟩ = some (.slice u0.a u0.n u0.c)) ∧ w'.frozen? ⟨gb, k, none⟩ = false ∧ gb < w'.heap.size ∧ Q4 w0 (w'.setCell ⟨gb, k, none⟩ gv.v) B S A n c hs gb B4 (k + 1) (us.set k gv) := by
  obtain ⟨A', c', e⟩ := ho.form
  refine ⟨⟨A', _, c'⟩, e, ?_⟩
  have hb4 := H.b4
  have hbw : B ≤ w.heap.size := by have := H.F.sz; omega
  have r1 : ∀ g, h.v.ownBlock = some g → g ≠ gb ∧ ¬ S g := fun g hg => ⟨by have := H.hb k h g hk hg; omega, H.F.nS k h g hk hg⟩
  have hF : FlatR w0 w' B S A n c hs (MKR hs) := H.F.grown hg (fun g hg => (r1 g hg).2) (fun g hg => ((H.F.rows.own k h hk).below_ g hg).1) hbw (fun k' h' g hh' hob hrow => by
    have hkk : k' = k := Classical.byContradiction fun hne => H.F.rows.ne k' k h' h g hh' hk hne hob hrow
    subst hkk
    rw [hk] at hh'
    injection hh' with hh'
    subst hh'
    rw [MKR_at hk]
    exact hk')
  have hG : GsR w' gb us := H.G.keep (hg.block gb H.G.lt (fun e => (r1 gb e.symm).1 rfl))
  obtain ⟨u0, hu0⟩ : ∃ u0, us[k]? = some u0 := ⟨_, List.getElem?_eq_getElem (by rw [H.ul]; exact hkn)⟩
  refine ⟨⟨u0, hG.cell hu0⟩, hG.fz k, hG.lt, ⟨⟨hF.ls.setCell (fun hs => by have := H.F.Sb _ hs; simp at this; omega) _, ⟨fun j x hj => (hF.rows.own j x hj).setCell (fun e => e) (fun e => by have := H.hb j x _ hj e; simp at this) _, hF.rows.ne⟩, hF.nS, hF.bel.setCell (by show B ≤ gb; omega) _, hF.Sb, fun b hb => (Below.heap_setCell _ _ _ b (fun e => by have := H.F.Sb b hb; simp at e; omega)).trans (hF.kp b hb)⟩, hG.set k _, by rw [List.length_set]; exact H.ul, fun j hj hjk hjj => ?_, by have := hg.size; simp; omega, H.hb⟩⟩
  by_cases ej : j = k
  · subst ej
    rw [hk] at hjj
    injection hjj with hjj
    subst hjj
    have ho2 : OwnL w' B 54 (fun _ => False) (Value.slice A' (mkR j h.n ++ ys).length c') (mkR j h.n ++ ys) := by rw [← e]; exact ho
    rw [e] at h5
    refine ⟨⟨A', _, c'⟩, ys, List.getElem?_set_self (by rw [H.ul]; exact hkn), ho2.setCell (fun e => e) (fun e2 => ?_) _, ?_⟩
    · rcases h5 with h5 | h5
      · rw [h5] at e2
        exact (r1 _ e2).1 rfl
      · rw [h5] at e2
        injection e2 with e2
        have := H.G.lt
        simp at e2
        omega
    · rcases h5 with h5 | h5
      · exact .inl h5
      · exact .inr ⟨_, h5, by omega⟩
  · obtain ⟨u, ys', hu, hou, hob⟩ := H.u j hj (by omega) hjj
    refine ⟨u, ys', by rw [List.getElem?_set_ne (fun e' => ej e'.symm)]; exact hu, (hou.keep hg.size (fun _ hf => hf.elim) fun g hg' => hg.block g (hou.below_ g hg').2 (fun e' => ?_)).setCell (fun e => e) (fun e' => ?_) _, hob⟩
    · rcases hob with h1 | ⟨g2, h1, h2⟩
      · rw [hg'] at h1
        exact H.F.rows.ne j k hj h g hjj hk ej h1.symm e'.symm
      · rw [hg'] at h1
        injection h1 with h1
        have := H.hb k h g hk e'.symm
        omega
    · rcases hob with h1 | ⟨g', h1, h2⟩
      · rw [h1] at e'
        have := H.hb j hj _ hjj e'
        simp at this
      · rw [h1] at e'
        injection e' with e'
        simp at e'
        omega
end
end Go.Proofs.Ytoghikagooegbaa
