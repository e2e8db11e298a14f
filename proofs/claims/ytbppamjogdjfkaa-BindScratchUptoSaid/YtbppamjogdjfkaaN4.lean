/- append onto a literal that is full: the world grows, and no more. What may be held of an operation. -/
import Derived.Test.YtbppamjogdjfkaaOwn
import Derived.Test.YtbppamjogdjfkaaFlow2
import Derived.Deep.MidRow
set_option linter.unusedSimpArgs false
set_option linter.unusedVariables false
namespace Go.Proofs.Ytbppamjogdjfkaa
open Go.RowKit

theorem run_push_full {P : Program} {α : Type} [Rep α] (w : World) (t ty : TypeId) (T : TypeId) (i : TypeInfo) (z : Value) (bytes : Nat) (ht : P.underlying t = some (.slice T)) (hi : P.info? T = some i) (hz : i.zero = some z)
    (hsize : i.size = Rep.size α) (hby : i.bytes = bytes) (hzs : z.cells.size = Rep.size α) (hsz : 0 < Rep.size α)
    (S S2 S' : Nat → Prop) (b : Addr) (n : Nat) (xs ys : List α) (hl : Sl w S (some b) n n xs) (A : Option Addr) (m c : Nat) (hr : Sl w S2 A m c ys)
    (hS : ∀ k, k < w.heap.size → S k → S' k) (hS2 : ∀ k, k < w.heap.size → S2 k → S' k) (hnew : ∀ k, w.heap.size ≤ k → S' k)
    (h63 : n + m ≤ 9223372036854775807) (hbytes : (n + m) * bytes ≤ 140737488355328) :
    ∃ v' w', (Builtin.append_ #[t, t] ty #[.slice (some b) n n, .slice A m c]).run P w = .ok v' w' ∧ (∃ u : Ext, w' = w.ext u) ∧ ∃ A' c', v' = .slice A' (n + m) c' ∧ Sl w' S' A' (n + m) c' (xs ++ ys) := by
  rcases Nat.eq_zero_or_pos m with h0 | h0
  · subst h0
    obtain rfl : ys = [] := List.eq_nil_of_length_eq_zero hr.len
    refine ⟨.slice (some b) n n, w, ?_, ext_refl w, some b, n, rfl, by rw [List.append_nil]; exact hl.more hS⟩
    cases A with
    | none => simp [Builtin.append_, run_underlying ht, sizeOf, typeInfo, hi, Builtin.lenOf, Builtin.firstCells, storeCells]
    | some ad =>
      have hf := run_firstCells_some (P := P) w i.size 0 ad 0 c [] (by simp) (by intro j v h; simp at h)
      simp [Builtin.append_, run_underlying ht, sizeOf, typeInfo, hi, Builtin.lenOf, hf, storeCells]
  · cases A with
    | none =>
      have h0' : c = 0 := hr.2.2.2.1 rfl
      have := hr.2.1; omega
    | some ad =>
      obtain ⟨us, hr', hc⟩ := (hr.more hS2).from_
      obtain ⟨vs, hl', hlc⟩ := (hl.more hS).from_
      obtain ⟨v', w', hrun, hown, hg⟩ := run_append_arg_grows (P := P) w t ty T i z (Rep.size α) bytes ht hi hz hsize hby hzs hsz b n n vs (by rw [hl'.len, hl.len]) hlc ad m c us (by rw [hr'.len, hr.len]) hc (by omega) (by unfold maxLen; omega) hbytes
      have hB : Below w.heap.size w w' := ⟨hg.os, hg.tape, hg.output, hg.size, fun k hk => hg.block k hk (by simp)⟩
      obtain ⟨u, rfl⟩ := hB.to_ext
      have ho : OwnL (w.ext u) w.heap.size T (fun k => S' k ∧ k < w.heap.size) v' (xs ++ ys) := by
        refine ⟨vs ++ us, by rw [List.length_append, hl.len, hr.len]; exact hown, ?_, fun g hg ⟨_, hlt⟩ => ?_⟩
        · exact RepL.keep (RepL.append (hl'.more fun b hb h => ⟨h, hb⟩) (hr'.more fun b hb h => ⟨h, hb⟩)) (by rw [size_ext]; omega) fun b _ hb => ext_block w u b hb
        · rcases hown.2 with ⟨rfl, _⟩ | ⟨g', cap, cur, rfl, hge, _⟩
          · simp [Value.ownBlock] at hg
          · simp [Value.ownBlock] at hg; omega
      obtain ⟨A', c', hv⟩ := ho.form
      rw [List.length_append, hl.len, hr.len] at hv
      subst hv
      refine ⟨_, _, hrun, ⟨u, rfl⟩, A', c', rfl, ho.sl fun k hk h => ?_⟩
      rcases h with h | h
      · exact h.1
      · exact hnew k h
end Go.Proofs.Ytbppamjogdjfkaa
set_option linter.unusedSimpArgs false
set_option linter.unusedVariables false
namespace Go.Proofs.Ytbppamjogdjfkaa
open Go.RowKit

section
variable {P : Program} {ops : Array Oper} {F : World → Prop} {wild : Bool}
theorem stable_mem {mem : Bool} {post : Post} (hm : mem = true) (h : ∀ v w (u : Ext), post v w → post v (w.ext u)) : stable F mem post := by
  unfold stable; rw [if_pos hm]; exact fun v w u _ hp => h v w u hp
theorem stable_pure {mem : Bool} {post : Post} (hm : mem = false) (h : ∀ v w w', post v w → post v w') : stable F mem post := by
  unfold stable; rw [if_neg (by rw [hm]; simp)]; exact h
/-- A value of which more is known than the world. -/
def PureP (p : Value → Prop) : Post := fun v _ => p v
theorem PureP.stable_ {mem : Bool} {p : Value → Prop} (hm : mem = false) : stable F mem (PureP p) := stable_pure hm fun _ _ _ h => h
/-- A slice that reads as a list. -/
def SlP {α : Type} [Rep α] (n : Nat) (xs : List α) : Post := fun v w => ∃ S A c, v = .slice A n c ∧ Sl w S A n c xs
/-- .. that is full. -/
def FullP {α : Type} [Rep α] (n : Nat) (xs : List α) : Post := fun v w => ∃ S b, v = .slice (some b) n n ∧ Sl w S (some b) n n xs
theorem SlP.stable_ {α : Type} [Rep α] {n : Nat} {xs : List α} {mem : Bool} (hm : mem = true) : stable F mem (SlP n xs) :=
  stable_mem hm fun _ _ u ⟨S, A, c, h, h'⟩ => ⟨S, A, c, h, h'.ext u⟩
theorem FullP.stable_ {α : Type} [Rep α] {n : Nat} {xs : List α} {mem : Bool} (hm : mem = true) : stable F mem (FullP n xs) :=
  stable_mem hm fun _ _ u ⟨S, b, h, h'⟩ => ⟨S, b, h, h'.ext u⟩
theorem FullP.lit {α : Type} [Rep α] {w w' : World} {S : Nat → Prop} {T : TypeId} {xs : List α} {us : Array Value} {n g : Nat} (hw : w' = w.alloc (.cells us T)) (hg : g = w.heap.size) (hr : RepL w S xs us.toList) (hn : xs.length = n) (hm : n ≤ 9223372036854775807) :
    FullP n xs (.slice (some ⟨g, 0, none⟩) n n) w' :=
  ⟨fun _ => True, _, rfl, by subst hw; exact Sl.lit (us := us.toList) hg hr hn hm (fun _ _ => trivial) trivial⟩
theorem onW_alloc {w0 w w' : World} {o : Obj} {b : Bool} (hw' : w' = w.alloc o) (h : ∃ x : Ext, w = w0.ext x) : onW (fun w' => ∃ u : Ext, w' = w0.ext u) b w w' := onW_ext h (by subst hw'; exact ext_alloc w o)
theorem onW_same {w0 w : World} {b : Bool} (h : ∃ x : Ext, w = w0.ext x) : onW (fun w' => ∃ u : Ext, w' = w0.ext u) b w w := onW_ext h (ext_refl w)
/-- A variable that has just been made. -/
def NewP (base : Nat) (n : Nat) (T : TypeId) : Post := fun v w => ∃ g, v = .pointer (some ⟨g, 0, none⟩) ∧ base ≤ g ∧ ∃ c : Array Value, w.heap[g]? = some (.cells c T) ∧ c.size = n
theorem NewP.stable_ {base n : Nat} {T : TypeId} {mem : Bool} (hm : mem = true) : stable F mem (NewP base n T) :=
  stable_mem hm fun _ w u ⟨g, h1, h2, c, h3, h4⟩ => ⟨g, h1, h2, c, by
    rw [ext_block w u g (Array.getElem?_eq_some_iff.1 h3).1]; exact h3, h4⟩
theorem NewP.mk_ {base n g : Nat} {T : TypeId} {w w' : World} {c : Array Value} (hw : w' = w.alloc (.cells c T)) (hg : g = w.heap.size) (hb : base ≤ g) (hc : c.size = n) : NewP base n T (.pointer (some ⟨g, 0, none⟩)) w' := by
  subst hw hg; exact ⟨_, rfl, hb, c, heap_alloc_new w _, hc⟩
/-- An operation that is carried out. -/
theorem HeldAt.of {o : Oper} {a : Act} {post : Post} {w : World} (hgd : o.guard = none) (h : heldUpon P F wild post w ((execOp a.eval o).run P w)) : HeldAt P ops F wild o a post w := by
  have hw : Region.wanted o (yielded ops a.tmps) = true := by simp [Region.wanted, hgd]
  unfold HeldAt
  rw [if_pos hw]; exact h
/-- append onto a literal. -/
theorem HeldAt.push_full {α : Type} [Rep α] {o : Oper} {a : Act} {w : World} (hgd : o.guard = none) (s x : Operand) (t : TypeId)
    (ho : o.op = .call { callee := .builtin .append, args := #[s, x], argTypes := #[t, t] }) (T : TypeId) (i : TypeInfo) (z : Value) (bytes : Nat) (ht : P.underlying t = some (.slice T)) (hi : P.info? T = some i) (hz : i.zero = some z)
    (hsize : i.size = Rep.size α) (hby : i.bytes = bytes) (hzs : z.cells.size = Rep.size α) (hsz : 0 < Rep.size α)
    (S S2 : Nat → Prop) (b : Addr) (n : Nat) (xs ys : List α) (hs : a.eval s = .slice (some b) n n) (hl : Sl w S (some b) n n xs) (A : Option Addr) (m c : Nat) (hx : a.eval x = .slice A m c) (hr : Sl w S2 A m c ys)
    (h63 : n + m ≤ 9223372036854775807) (hbytes : (n + m) * bytes ≤ 140737488355328) (hon : ∀ u : Ext, onW F wild w (w.ext u)) : HeldAt P ops F wild o a (SlP (n + m) (xs ++ ys)) w := by
  refine HeldAt.of hgd ?_
  obtain ⟨v', w', hrun, ⟨u, rfl⟩, A', c', rfl, hsl⟩ := run_push_full (P := P) w t o.type T i z bytes ht hi hz hsize hby hzs hsz S S2 (fun _ => True) b n xs ys hl A m c hr (fun _ _ _ => trivial) (fun _ _ _ => trivial) (fun _ _ => trivial) h63 hbytes
  unfold execOp
  simp only [ho, resolve, invoke, builtin, Sem.run_bind, Sem.run_pure, Result.andThen_ok, List.map_toArray, List.map_cons, List.map_nil, hs, hx, hrun]
  exact ⟨⟨_, _, _, rfl, hsl⟩, hon u⟩
theorem below_setCells {B b : Nat} (hb : B ≤ b) : ∀ (vs : List Value) (o : Nat) (a w : World), Below B a w → Below B a (w.setCells b o vs)
  | [], _, _, _, h => h
  | v :: r, o, a, w, h => below_setCells hb r (o + 1) a _ (h.setCell (p := ⟨b, o, none⟩) hb v)
/-- A whole array is put into a new variable. -/
theorem HeldAt.store_new {o : Oper} {a : Act} {w0 w : World} (hgd : o.guard = none) (ty : TypeId) (x y : Operand) (ho : o.op = .store ty x y) (g : Nat) (c c' : Array Value) (hx : a.eval x = .pointer (some ⟨g, 0, none⟩)) (hy : a.eval y = .agg c')
    (hg : w0.heap.size ≤ g) (hc : w.heap[g]? = some (.cells c ty)) (hi : (P.info? ty).map (·.size) = some c'.size) (hs : c.size = c'.size) (h1 : c'.all (·.oneCell') = true) (hw : ∃ u : Ext, w = w0.ext u) :
    HeldAt P ops (fun w' => ∃ u : Ext, w' = w0.ext u) true o a (PureP fun _ => True) w := by
  refine HeldAt.of hgd ?_
  obtain ⟨u, rfl⟩ := hw
  have hr := run_storeVar_mid (P := P) (w0.ext u) g 0 ty c' (fun j hj => by
    have hj' : j < c.size := by omega
    refine ⟨?_, ?_⟩
    · simp [World.cell?, hc, hj']
    · simp [World.frozen?, hc]) hi h1
  unfold execOp
  simp only [ho, hx, hy, Instr.storeAt, Instr.sureAddr, Sem.run_bind, Sem.run_pure, Result.andThen_ok, hr]
  refine ⟨trivial, ?_, fun h => by cases h⟩
  exact Below.to_ext (below_setCells hg _ _ _ _ (Below.of_ext w0 u (Nat.le_refl _)))
section
variable {an : List (List Nat)} {Ws Ms : List Nat} {Q : Act → World → Prop} {o : Oper} {rest : List Oper} {k : Nat} {a : Act} {H : List HeldP} {w0 : World}
abbrev extF (w0 : World) : World → Prop := fun w' => ∃ u : Ext, w' = w0.ext u
theorem flow_keep0 (post : Post) (hms : (maskOf ops o H).all (! ·) = true) (hst : stable (extF w0) (Ms.contains k) post) (h1 : ∀ u : Ext, HeldAt P ops (extF w0) (Ws.contains k) o a post (w0.ext u))
    (h2 : Flow P ops (extF w0) an Ws Ms Q rest (k + 1) a (H ++ [⟨k, o.dst, post⟩])) : Flow P ops (extF w0) an Ws Ms Q (o :: rest) k a H :=
  flow_held0 post hms hst (fun _ ⟨u, hu⟩ => hu ▸ h1 u) h2
theorem flow_keep (ms : List Bool) (post : Post) (hms : maskOf ops o H = ms) (hst : stable (extF w0) (Ms.contains k) post) (h1 : ∀ u : Ext, useH ms H a (w0.ext u) fun a' => HeldAt P ops (extF w0) (Ws.contains k) o a' post (w0.ext u))
    (h2 : Flow P ops (extF w0) an Ws Ms Q rest (k + 1) a (H ++ [⟨k, o.dst, post⟩])) : Flow P ops (extF w0) an Ws Ms Q (o :: rest) k a H :=
  flow_held ms post hms hst (fun _ ⟨u, hu⟩ => hu ▸ h1 u) h2
theorem flow_out (ms : List Bool) (c : Value) (hms : maskOf ops o H = ms) (h1 : ∀ u : Ext, useH ms H a (w0.ext u) fun a' => KnownAt P ops o a' c (w0.ext u)) (h2 : Flow P ops (extF w0) an Ws Ms Q rest (k + 1) (a.put o.dst c) H) : Flow P ops (extF w0) an Ws Ms Q (o :: rest) k a H :=
  flow_known_use ms c hms (fun _ ⟨u, hu⟩ => hu ▸ h1 u) h2
theorem flow_done (ms : List Bool) (hms : liveOf an Ws Ms H = ms) (h : ∀ u : Ext, endH ms H a (w0.ext u) fun a' => Q a' (w0.ext u)) : Flow P ops (extF w0) an Ws Ms Q [] k a H :=
  flow_nil ms hms fun _ ⟨u, hu⟩ => hu ▸ h u
end
end
end Go.Proofs.Ytbppamjogdjfkaa
