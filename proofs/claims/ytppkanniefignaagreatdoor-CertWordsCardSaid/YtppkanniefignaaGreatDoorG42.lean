/- law28: walks: CertWords: rows of texts of the call's own; texts that are joined. law28: what strings.Split and ReplaceAll read of package-level variables; ReplaceAll at one byte, as far as its size. -/
import Derived.Test.YtppkanniefignaaGreatDoorG41
import Derived.Test.YtppkanniefignaaGreatDoorShelfC
import Derived.Test.YtppkanniefignaaGreatDoorG28
import Derived.Test.YtppkanniefignaaGreatDoorG10
import Derived.Lib.ReplaceLaws
set_option linter.unusedSimpArgs false
set_option linter.unusedVariables false
namespace Go.Proofs.YtppkanniefignaaGreatDoor
open Go.RowKit Go.Maps
theorem OwnL.own_some {α : Type} [Rep α] {w : World} {B n g : Nat} {T : TypeId} {S : Nat → Prop} {xs : List α} {v : Value} (h : OwnL w B T S v xs) (hg : v.ownBlock = some g) (hn : xs.length = n) : ∃ c, v = .slice (some ⟨g, 0, none⟩) n c := by
 obtain ⟨vals, ⟨_, h⟩, _⟩ := h
 rcases h with ⟨rfl, _⟩ | ⟨g', cap, cur, rfl, _⟩
 ·cases hg
 ·have e : g' = g := by injection hg
  subst e hn
  exact ⟨_, rfl⟩
def OwnNE {α : Type} [Rep α] (B : Nat) (T : TypeId) (S : Nat → Prop) (xs : List α) : Post := fun v w => ∃ g c, v = .slice (some ⟨g, 0, none⟩) xs.length c ∧ OwnL w B T S (.slice (some ⟨g, 0, none⟩) xs.length c) xs
theorem OwnNE.stable_ {α : Type} [Rep α] {F : World → Prop} {B : Nat} {T : TypeId} {S : Nat → Prop} {xs : List α} {mem : Bool} (hm : mem = true) : stable F mem (OwnNE B T S xs) :=
 stable_mem hm fun _ _ u ⟨g, c, hv, h⟩ => ⟨g, c, hv, h.ext u⟩
theorem HeldAt.push_ext {P : Program} {ops : Array Oper} {α : Type} [Rep α] {o : Oper} {a : Act} {w0 w : World} (hgd : Region.wanted o (yielded ops a.tmps) = true) (s x : Operand) (t : TypeId)
  (ho : o.op = .call { callee := .builtin .append, args := #[s, x], argTypes := #[t, t] }) (base : Nat) (T : TypeId) (i : TypeInfo) (z : Value) (bytes : Nat) (ht : P.underlying t = some (.slice T)) (hi : P.info? T = some i) (hz : i.zero = some z)
  (hsize : i.size = Rep.size α) (hby : i.bytes = bytes) (hzs : z.cells.size = Rep.size α) (hsz : 0 < Rep.size α)
  (S S' S2 : Nat → Prop) (g c0 : Nat) (xs ys zs : List α) (hzs' : xs ++ ys = zs) (hs : a.eval s = .slice (some ⟨g, 0, none⟩) xs.length c0) (hown : OwnL w base T S (.slice (some ⟨g, 0, none⟩) xs.length c0) xs)
  (A : Option Addr) (m c : Nat) (hx : a.eval x = .slice A m c) (hr : Sl w S2 A m c ys)
  (hSS : ∀ b, S b → S' b) (hSS2 : ∀ b, b < w.heap.size → S2 b → S' b) (hap : ¬ S' g) (hnew : ∀ b, S' b → b < w.heap.size)
  (h63 : xs.length + m ≤ 9223372036854775807) (hbytes : (xs.length + m) * bytes ≤ 140737488355328) (hbase : base ≤ w.heap.size) (hb0 : w0.heap.size ≤ base) (hw : ∃ u : Ext, w = w0.ext u) :
  HeldAt P ops (fun w' => ∃ u : Ext, w' = w0.ext u) true o a (OwnNE base T S' zs) w := by
 subst hzs'
 have hlen : (xs ++ ys).length = (xs ++ ys).length := rfl
 obtain ⟨v', w', hrun, h1, h2, h3⟩ := run_push_sl (P := P) w t o.type base T i z bytes ht hi hz hsize hby hzs hsz S S' S2 _ xs ys hown A m c hr hSS hSS2 (fun g' e => by injection e with e; subst e; exact hap) hnew h63 hbytes hbase
 unfold HeldAt
 rw [if_pos hgd]
 unfold execOp
 simp only [ho, resolve, invoke, builtin, Sem.run_bind, Sem.run_pure, Result.andThen_ok, List.map_toArray, List.map_cons, List.map_nil, hs, hx, hrun]
 have hgb : base ≤ g := (hown.below_ g rfl).1
 refine ⟨?_, ?_, fun h => by cases h⟩
 ·rcases h3 with h3 | h3
  ·obtain ⟨c', rfl⟩ := h1.own_some (g := g) h3 hlen
   exact ⟨_, _, rfl, h1⟩
  ·obtain ⟨c', rfl⟩ := h1.own_some (g := w.heap.size) h3 hlen
   exact ⟨_, _, rfl, h1⟩
 ·obtain ⟨u, rfl⟩ := hw
  have hb : Below w0.heap.size w0 (w0.ext u) := Below.of_ext w0 u (Nat.le_refl _)
  exact (hb.grown h2 (by rw [size_ext]; omega) fun q hq => by
   have hq' : some g = some q := hq
   injection hq' with hq'
   subst hq'
   omega).to_ext
theorem OwnL.belowAll28 {α : Type} [Rep α] {w w' : World} {base : Nat} {T : TypeId} {S : Nat → Prop} {v : Value} {xs : List α} (h : OwnL w base T S v xs) (hb : Below w.heap.size w w') : OwnL w' base T S v xs :=
 h.keep hb.size (fun b _ hl => hb.block b hl) (fun g hg => hb.block g (h.below_ g hg).2)
theorem join_any (w : World) (base : Nat) (T : TypeId) (S : Nat → Prop) (g n c : Nat) (xs : List ByteArray) (sep : ByteArray) (h : OwnL w base T S (.slice (some ⟨g, 0, none⟩) n c) xs) (hl : xs.length ≤ 2097152) (hz : ∀ x ∈ xs, x.size ≤ 1048576) (hs : sep.size ≤ 16) : Calls Tryz.prog 26 #[.slice (some ⟨g, 0, none⟩) n c, .string sep] w (RetS 17592186044416 w) := by
 have hsl := h.sl (S' := fun _ => True) fun _ _ _ => trivial
 have hn := hsl.len
 subst hn
 have hcells : ∀ (j : Nat) (x : ByteArray), xs[j]? = some x → w.cell? ⟨g, 0 + j, none⟩ = some (.string x) := fun j x hj => by
  have hjn : j < xs.length := (List.getElem?_eq_some_iff.1 hj).1
  obtain ⟨g2, y, us, e2, _, _, _, hy, hus, hc⟩ := h.at_own hjn
  injection e2 with e2
  injection e2 with e2
  subst e2
  rw [hj] at hy
  injection hy with hy
  subst hy
  obtain ⟨rfl, _⟩ := hus
  have := hc 0 _ rfl
  simpa [Rep.size] using this
 have key : ∀ l : List ByteArray, (∀ x ∈ l, x.size ≤ 1048576) → (Lib.joinTail sep.data.toList (l.map (·.data.toList))).length ≤ 1048592 * l.length := by
  intro l
  induction l with
  | nil => intro _; exact Nat.zero_le _
  | cons y l ih =>
   intro hl
   have h1 := ih fun x hx => hl x (List.mem_cons_of_mem _ hx)
   have h2 := hl y (by simp)
   rw [size_list] at h2 hs
   unfold Lib.joinTail at h1 ⊢
   simp only [List.map_cons, List.flatten_cons, List.length_append, List.length_cons]
   omega
 have hj : (Lib.join (xs.map (·.data.toList)) sep.data.toList).length ≤ 17592186044416 := by
  cases xs with
  | nil => exact Nat.zero_le _
  | cons y l =>
   have h1 := key l fun x hx => hz x (List.mem_cons_of_mem _ hx)
   have h2 := hz y (by simp)
   rw [size_list] at h2
   simp only [List.map_cons, Lib.join_cons, List.length_append]
   simp only [List.length_cons] at hl
   omega
 have hgl : g < w.heap.size := (h.below_ g rfl).2
 refine (Tryz.strings_Join g 0 c xs sep w hcells hgl (by omega) hsl.2.1 (by omega)).mono ?_
 rintro e' w' ⟨rfl, hb⟩
 exact ⟨_, by rw [size_list]; simpa using hj, rfl, hb.to_ext⟩
theorem splitB_sz (sep : ByteArray) : ∀ (k : Nat) (s : ByteArray), (∀ x ∈ Lib.splitB sep 0 k s, x.size ≤ s.size)
 | 0, s => fun x hx => by rw [Lib.splitB_zero, List.mem_singleton] at hx; subst hx; exact Nat.le_refl _
 | k + 1, s => fun x hx => by
  unfold Lib.splitB at hx
  split at hx
  ·rw [List.mem_singleton] at hx; subst hx; exact Nat.le_refl _
  ·rcases List.mem_cons.1 hx with rfl | hx
   ·rw [ByteArray.size_extract]; omega
   ·have := splitB_sz sep k _ x hx
    rw [ByteArray.size_extract] at this
    omega
theorem RepL.strs {w : World} {S : Nat → Prop} : ∀ L : List ByteArray, (∀ x ∈ L, x.size ≤ maxLen) → RepL w S L (L.map Value.string)
 | [], _ => rfl
 | x :: l, h => ⟨[.string x], _, rfl, ⟨rfl, h x (by simp)⟩, RepL.strs l fun y hy => h y (by simp [hy])⟩
theorem info_parts28 {P : Program} {t : TypeId} {z : Value} {n b : Nat} (h : (P.info? t).map (fun i => (i.zero, i.size, i.bytes)) = some (some z, n, b)) : ∃ i, P.info? t = some i ∧ i.zero = some z ∧ i.size = n ∧ i.bytes = b := by
 cases hi : P.info? t with
 | none => rw [hi] at h; cases h
 | some i =>
  rw [hi] at h
  simp only [Option.map_some, Option.some.injEq, Prod.mk.injEq] at h
  exact ⟨i, rfl, h⟩
end Go.Proofs.YtppkanniefignaaGreatDoor
namespace Go.Proofs.YtppkanniefignaaGreatDoor
open Go.RowKit Go.Maps
structure VarsQ (w : World) : Prop where
 p : VarsP w
 m : ∃ m, w.cell? ⟨0, 0, none⟩ = some (.int .i64 m)
theorem VarsQ.below {w w' : World} {B : Nat} (h : VarsQ w) (hb : Below B w w') (hB : 8 ≤ B) : VarsQ w' := by
 obtain ⟨m, hm⟩ := h.m
 exact ⟨h.p.below hb hB, m, (World.cell?_of_block (hb.block _ (by show 0 < B; omega))).trans hm⟩
theorem VarsQ.ext {w : World} (h : VarsQ w) (u : Ext) : VarsQ (w.ext u) := h.below (Below.of_ext w u (Nat.le_refl _)) h.p.v.sz
theorem replaceK_len (c : UInt8) (new : List UInt8) : ∀ (k : Nat) (s : List UInt8), (Lib.replaceK [c] new k s).length ≤ s.length + k * new.length
 | 0, s => by rw [Lib.replaceK]; omega
 | k + 1, s => by
  rw [Lib.replaceK]
  split
  ·omega
  ·have ih := replaceK_len c new k (s.drop ((Lib.index s [c]).toNat + [c].length))
   simp only [List.length_append, List.length_take, List.length_drop, List.length_cons, List.length_nil] at ih ⊢
   rw [Nat.add_mul]
   omega
theorem replaceAll_len (c : UInt8) (new s : List UInt8) : (Lib.replaceAll s [c] new).length ≤ s.length + s.length * new.length := by
 unfold Lib.replaceAll Lib.replace
 split
 ·omega
 ·have h1 := replaceK_len c new (Lib.replaceNum s [c] (-1)) s
  have h2 : Lib.replaceNum s [c] (-1) ≤ s.length := by
   unfold Lib.replaceNum
   rw [if_pos (.inl (by decide)), Lib.count_one]
   exact List.count_le_length
  have h3 := Nat.mul_le_mul_right new.length h2
  omega
theorem replS_any (t : ByteArray) (c : UInt8) (new : List UInt8) (hl2 : new.length ≤ 64) (w : World) (ht : t.size ≤ 4194304) (hv : VarsQ w) :
  Calls Tryz.prog 22 #[.string t, .string ⟨#[c]⟩, .string ⟨new.toArray⟩] w (RetS (t.size + t.size * new.length) w) := by
 obtain ⟨m, hm⟩ := hv.m
 have h1 := Lib.countB_le ⟨#[c]⟩ (by show 1 ≤ 1; omega) t.size t (Nat.le_refl _)
 have h2 : (⟨new.toArray⟩ : ByteArray).size = new.length := by show new.toArray.size = _; simp
 have h3 : Lib.countB t ⟨#[c]⟩ * (⟨new.toArray⟩ : ByteArray).size ≤ 4194304 * 64 := Nat.mul_le_mul (by omega) (by omega)
 refine (Tryz.strings_ReplaceAll t ⟨#[c]⟩ ⟨new.toArray⟩ m w (by omega) hm (by show 1 ≤ 1; omega) (by omega)).mono ?_
 rintro e w' ⟨rfl, hb⟩
 refine ⟨_, ?_, rfl, hb.to_ext⟩
 have := replaceAll_len c new t.data.toList
 rw [← size_list] at this
 rw [size_list]
 simpa using this
theorem split_any (t : ByteArray) (w : World) (ht : t.size ≤ 1048576) (hv : VarsQ w) :
  Calls Tryz.prog 25 #[.string t, .string ⟨#[32]⟩] w fun e w' => ∃ L : List ByteArray, L.length ≤ 1048577 ∧ (∀ x ∈ L, x.size ≤ 1048576) ∧ e = .returned (.slice (some ⟨w.heap.size, 0, none⟩) L.length L.length) ∧ w' = w.alloc (.cells (L.map Value.string).toArray 9) := by
 obtain ⟨m, hm⟩ := hv.m
 have h1 := Lib.countB_le ⟨#[32]⟩ (by show 1 ≤ 1; omega) t.size t (Nat.le_refl _)
 refine (Tryz.strings_Split t ⟨#[32]⟩ m w (by omega) hm (by show 1 ≤ 1; omega)).mono ?_
 rintro e w' ⟨rfl, rfl⟩
 have h2 := Lib.splitB_all ⟨#[32]⟩ (by show 1 ≤ 1; omega) 0 (Lib.countB t ⟨#[32]⟩) t rfl
 exact ⟨Lib.splitB ⟨#[32]⟩ 0 (Lib.countB t ⟨#[32]⟩) t, by omega, fun x hx => by have := splitB_sz _ _ t x hx; omega, by rw [h2], rfl⟩
end Go.Proofs.YtppkanniefignaaGreatDoor
