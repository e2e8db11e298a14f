/- Entries of a map: taken, written. Entries of a map of numbers, in a region that draws. law24: plain: the document's loops over the registers. law24: plain: the document's registers, color by color. -/
import Derived.Test.YtbppamjogdjfkaaMpIn
import Derived.WideKeyElems
import Derived.Test.YtbppamjogdjfkaaFlow9
import Derived.Test.YtbppamjogdjfkaaIT7
import Derived.Test.YtbppamjogdjfkaaND
set_option linter.unusedSimpArgs false
set_option linter.unusedVariables false
namespace Go.Proofs.Ytbppamjogdjfkaa
open Go.RowKit Go.Maps
open Go.WideElems (Fit rd rg pl)
open Go.ChangeMaps Go.MapKept

theorem nodup_at {α : Type} {l : List α} : l.Nodup ↔ ∀ (i j : Nat) (x y : α), l[i]? = some x → l[j]? = some y → i ≠ j → x ≠ y := by
  unfold List.Nodup
  rw [List.pairwise_iff_getElem]
  constructor
  · intro h i j x y hi hj hne e
    obtain ⟨li, ei⟩ := List.getElem?_eq_some_iff.1 hi
    obtain ⟨lj, ej⟩ := List.getElem?_eq_some_iff.1 hj
    rcases Nat.lt_or_gt_of_ne hne with hl | hl
    · exact h i j li lj hl (ei.trans (e.trans ej.symm))
    · exact h j i lj li hl (ej.trans (e.symm.trans ei.symm))
  · intro h i j hi hj hl e
    exact h i j l[i] l[j] (List.getElem?_eq_getElem hi) (List.getElem?_eq_getElem hj) (by omega) e
theorem modify_congr {α : Type} {es : Array α} {j : Nat} {e : α} (h : es[j]? = some e) {f g : α → α} (hfg : f e = g e) : es.modify j f = es.modify j g := by
  apply Array.ext_getElem?
  intro i
  rw [Array.getElem?_modify, Array.getElem?_modify]
  by_cases hij : j = i
  · subst hij; simp [h, hfg]
  · simp [hij]
theorem modify_same {α : Type} {es : Array α} {j : Nat} {e : α} (h : es[j]? = some e) {f : α → α} (hf : f e = e) : es.modify j f = es := by
  apply Array.ext_getElem?
  intro i
  rw [Array.getElem?_modify]
  by_cases hij : j = i
  · subst hij; simp [h, hf]
  · simp [hij]
theorem born_at {es : Array MapEntry} {clock j : Nat} {e : MapEntry} (hs : MapKept.Stamped es clock) (h : es[j]? = some e) : es.findIdx? (fun x => (x.born : Int) == (e.born : Int)) = some j := by
  obtain ⟨hj, he⟩ := Array.getElem?_eq_some_iff.1 h
  rw [Array.findIdx?_eq_some_iff_getElem]
  refine ⟨hj, by rw [he]; simp, fun i hi => ?_⟩
  have hn := nodup_at.1 hs.2.1 i j
  have h1 : (es.toList.map (·.born))[i]? = some (es[i]'(by omega)).born := by rw [List.getElem?_map, Array.getElem?_toList, Array.getElem?_eq_getElem (by omega)]; rfl
  have h2 : (es.toList.map (·.born))[j]? = some e.born := by rw [List.getElem?_map, Array.getElem?_toList, h]; rfl
  have := hn _ _ h1 h2 (by omega)
  simp only [Bool.not_eq_true, beq_eq_false_iff_ne, ne_eq]
  omega
section
variable {H : Type} {P : Program} {t k e : TypeId} {R : Value → Option (DataW H × List MemPlace)} {w : World} {b : Nat} {es : Array MapEntry} {clock : Nat}
theorem run_entryStore (K : Keyed P k) (ht : P.underlying t = some (.map k e)) {key : Value} {kl : Lit} (hkey : keyOf P k key = some kl) (hb : w.heap[b]? = some (.map es clock)) (hs : MapKept.Stamped es clock)
    (hk : ∀ x ∈ es.toList, ∃ l, keyOf P k x.key = some l) {j : Nat} {e0 : MapEntry} (h0 : es[j]? = some e0) (hk0 : e0.key = key) (val : Value) :
    (Instr.entryStore t (.map (some b)) (.int .i64 e0.born) val).run P w = (Instr.mapUpdate t (.map (some b)) key val).run P w := by
  have h0' : es.toList[j]? = some e0 := by rw [Array.getElem?_toList]; exact h0
  rcases K.find w hkey es.toList hk with ⟨h1, h2⟩ | ⟨i, e1, h1, h2, h3⟩
  · exact absurd hk0 (h2 e0 (List.mem_of_getElem? h0'))
  · have hij : i = j := by
      by_cases hij : i = j
      · exact hij
      · exact absurd (h3.trans hk0.symm) (nodup_at.1 hs.2.2 i j e1.key e0.key (by rw [List.getElem?_map, h2]; rfl) (by rw [List.getElem?_map, h0']; rfl) hij)
    subst hij
    rw [h0'] at h2
    injection h2 with h2
    subst h2
    have e2 := modify_congr (f := fun x : MapEntry => { x with val := val }) (g := fun x : MapEntry => { x with key := key, val := val }) h0 (by rw [← hk0])
    have hf := born_at hs h0
    simp [Instr.mapUpdate, Instr.entryStore, asInt, asIntOf, run_underlying ht, MapKept.run_getObj_map hb, K.check w false hkey, h1, h0, hk0, K.stays w hkey, MapKept.run_setObj_map _ hb, Result.andThen, hf, e2]
theorem run_entry (K : Keyed P k) (ht : P.underlying t = some (.map k e)) {z : Value} (hz : (zeroValue e).run P w = .ok z w) (hb : w.heap[b]? = some (.map es clock)) (F : Fit P k R es clock) {key : Value} {kl : Lit} (hkey : keyOf P k key = some kl) :
    ∃ (v : Value) (stamp : Nat) (w1 : World), (Instr.lookup t (.map (some b)) key false).run P w = .ok v w ∧ (Instr.mapEntry t (.map (some b)) key).run P w = .ok (.tuple #[v, .int .i64 stamp]) w1 ∧ (Instr.mapUpdate t (.map (some b)) key v).run P w = .ok () w1 ∧
      ∀ (w2 : World) (val : Value), w2.heap[b]? = w1.heap[b]? → (Instr.entryStore t (.map (some b)) (.int .i64 stamp) val).run P w2 = (Instr.mapUpdate t (.map (some b)) key val).run P w2 := by
  rcases K.find w hkey es.toList F.keys with ⟨h1, h2⟩ | ⟨j, e0, h1, h2, h3⟩
  · refine ⟨z, clock, setBlock w b (.map (es.push ⟨key, z, clock⟩) (clock + 1)), ?_, ?_, ?_, fun w2 val hw2 => ?_⟩
    · simp [Instr.lookup, run_underlying ht, MapKept.run_getObj_map hb, K.check w _ hkey, h1, hz, Result.andThen]
    · simp [Instr.mapEntry, goInt, run_underlying ht, MapKept.run_getObj_map hb, K.check w false hkey, h1, hz, MapKept.run_setObj_map _ hb, Result.andThen, setBlock]
    · simp [Instr.mapUpdate, run_underlying ht, MapKept.run_getObj_map hb, K.check w false hkey, h1, MapKept.run_setObj_map _ hb, Result.andThen, setBlock]
    · have hb2 : w2.heap[b]? = some (.map (es.push ⟨key, z, clock⟩) (clock + 1)) := by rw [hw2]; exact heap_setBlock_same hb _
      exact run_entryStore K ht hkey hb2 (stamped_push F.stamped h2) (fun x hx => by
        simp only [Array.toList_push, List.mem_append, List.mem_singleton] at hx
        rcases hx with hx | rfl
        · exact F.keys x hx
        · exact ⟨kl, hkey⟩) (j := es.size) (e0 := ⟨key, z, clock⟩) (by simp) rfl val
  · have hj : es[j]? = some e0 := by simpa using h2
    have e1 := modify_same (f := fun x : MapEntry => { x with key := key }) hj (by rw [← h3])
    have e2 := modify_same (f := fun x : MapEntry => { x with key := key, val := e0.val }) hj (by rw [← h3])
    refine ⟨e0.val, e0.born, setBlock w b (.map es clock), ?_, ?_, ?_, fun w2 val hw2 => ?_⟩
    · simp [Instr.lookup, run_underlying ht, MapKept.run_getObj_map hb, K.check w _ hkey, h1, Result.andThen]
    · simp [Instr.mapEntry, goInt, run_underlying ht, MapKept.run_getObj_map hb, K.check w false hkey, h1, hj, h3, K.stays w hkey, MapKept.run_setObj_map _ hb, Result.andThen, setBlock, e1]
    · simp [Instr.mapUpdate, run_underlying ht, MapKept.run_getObj_map hb, K.check w false hkey, h1, hj, h3, K.stays w hkey, MapKept.run_setObj_map _ hb, Result.andThen, setBlock, e2]
    · have hb2 : w2.heap[b]? = some (.map es clock) := by rw [hw2]; exact heap_setBlock_same hb _
      exact run_entryStore K ht hkey hb2 F.stamped F.keys hj h3 val
end
section
variable {P : Program} {α β : Type} {K : KeyT P α} {E : ElT P β} {w w' : World} {b n : Nat} {f : α → Option β}
/-- The entry of a key, and what is written there. -/
theorem MapP.entry [DecidableEq α] (h : MapP K E w b n f) {t : TypeId} (ht : P.underlying t = some (.map K.t E.e)) (hn : n < maxLen) {x : α} (hx : K.good x) :
    ∃ (stamp : Nat) (w1 : World), (Instr.mapEntry t (.map (some b)) (K.val x)).run P w = .ok (.tuple #[E.val ((f x).getD E.zero), .int .i64 stamp]) w1 ∧ MapP K E w1 b (n + 1) (upd f x (some ((f x).getD E.zero))) ∧ w.grownBy w1 (some b) ∧
      ∀ (w2 : World) (y : β), E.good y → w2.heap[b]? = w1.heap[b]? → n + 1 < maxLen → ∃ w3, (Instr.entryStore t (.map (some b)) (.int .i64 stamp) (E.val y)).run P w2 = .ok () w3 ∧ MapP K E w3 b (n + 2) (upd f x (some y)) ∧ w2.grownBy w3 (some b) := by
  have hget := h.get ht hx
  obtain ⟨D, ⟨es, clock, hb, F, hs, hD⟩, h2⟩ := id h
  obtain ⟨v, stamp, w1, r1, r2, r3, r4⟩ := run_entry K.law ht (E.zero_run w) hb F (K.of x hx)
  rw [hget] at r1
  injection r1 with r1 _
  subst r1
  obtain ⟨w1', u1, u2, u3⟩ := h.put ht hn hx (h.getD_good x)
  rw [r3] at u1
  injection u1 with _ u1
  subst u1
  refine ⟨stamp, w1, r2, u2, u3, fun w2 y hy hw2 hn2 => ?_⟩
  have m2 : MapP K E w2 b (n + 1) (upd f x (some ((f x).getD E.zero))) := u2.keep hw2
  obtain ⟨w3, q1, q2, q3⟩ := m2.put ht hn2 hx hy
  refine ⟨w3, (r4 w2 _ hw2).trans q1, ?_, q3⟩
  have e : upd (upd f x (some ((f x).getD E.zero))) x (some y) = upd f x (some y) := by
    funext z; unfold upd; split <;> rfl
  rw [e] at q2
  exact q2
end
end Go.Proofs.Ytbppamjogdjfkaa
set_option linter.unusedSimpArgs false
set_option linter.unusedVariables false
namespace Go.Proofs.Ytbppamjogdjfkaa
open Go.RowKit Go.Maps
section
variable {P : Program} {ops : Array Oper} {F G0 : World → Prop} {an : List (List Nat)} {Ws Ms : List Nat} {Q : Act → World → Prop} {o : Oper} {rest : List Oper} {k : Nat} {a : Act} {H : List HeldP}
theorem flowG_keepG (ms : List Bool) (post : Post) (hms : maskOf ops o H = ms) (hst : stable F (Ms.contains k) post) (hp : preB an Ws k = true)
    (h1 : ∀ w, F w → G0 w → useH ms H a w fun a' => HeldAt P ops F (Ws.contains k) o a' post w)
    (h2 : FlowG P ops F G0 an Ws Ms Q rest (k + 1) a (H ++ [⟨k, o.dst, post⟩])) : FlowG P ops F G0 an Ws Ms Q (o :: rest) k a H :=
  .inr ⟨post, hst, fun w hw => hms ▸ h1 w hw.1 (hw.2 hp), h2⟩
end
/-- What an entry's place tells. -/
def EntI (tb n : Nat) (f : Int → Option Int) (x : Int) (stamp : Nat) (w : World) : Prop := tb < w.heap.size ∧
  ∀ (w2 : World) (y : Int), InI y → w2.heap[tb]? = w.heap[tb]? → ∃ w3, (Instr.entryStore 46 (.map (some tb)) (.int .i64 stamp) (.int .i64 y)).run Try.prog w2 = .ok () w3 ∧ IMapI w3 tb n (upd f x (some y)) ∧ w2.grownBy w3 (some tb)
theorem EntI.ext {tb n : Nat} {f : Int → Option Int} {x : Int} {stamp : Nat} {w : World} (h : EntI tb n f x stamp w) (u : Ext) : EntI tb n f x stamp (w.ext u) :=
  ⟨by rw [size_ext]; have := h.1; omega, fun w2 y hy hb => h.2 w2 y hy (hb.trans (ext_block w u tb h.1))⟩
def Ent5I (tb n : Nat) (f : Int → Option Int) (x : Int) (v : Value) : Post := fun v' w => ∃ stamp : Nat, v' = .tuple #[v, .int .i64 stamp] ∧ EntI tb n f x stamp w
def Ent6I (tb n : Nat) (f : Int → Option Int) (x : Int) : Post := fun v' w => ∃ stamp : Nat, v' = .int .i64 stamp ∧ EntI tb n f x stamp w
def Ent7I (tb n : Nat) (f : Int → Option Int) : Post := fun _ w => IMapI w tb n f
theorem Ent5I.stable_ {F : World → Prop} {tb n : Nat} {f : Int → Option Int} {x : Int} {v : Value} {mem : Bool} (hm : mem = true) : stable F mem (Ent5I tb n f x v) :=
  stable_mem hm fun _ _ u ⟨s, e, h⟩ => ⟨s, e, h.ext u⟩
theorem Ent6I.stable_ {F : World → Prop} {tb n : Nat} {f : Int → Option Int} {x : Int} {mem : Bool} (hm : mem = true) : stable F mem (Ent6I tb n f x) :=
  stable_mem hm fun _ _ u ⟨s, e, h⟩ => ⟨s, e, h.ext u⟩
theorem Ent7I.stable_ {F : World → Prop} {tb n : Nat} {f : Int → Option Int} {mem : Bool} (hm : mem = true) : stable F mem (Ent7I tb n f) :=
  stable_mem hm fun _ _ u h => MapP.ext h u
theorem entI_of {w : World} {tb n : Nat} {f : Int → Option Int} (h : IMapI w tb n f) (hn : n + 1 < maxLen) {x : Int} (hx : InI x) :
    ∃ (stamp : Nat) (w1 : World), (Instr.mapEntry 46 (.map (some tb)) (.int .i64 x)).run Try.prog w = .ok (.tuple #[.int .i64 ((f x).getD 0), .int .i64 stamp]) w1 ∧ EntI tb (n + 2) f x stamp w1 ∧ w.grownBy w1 (some tb) := by
  obtain ⟨stamp, w1, r1, r2, r3, r4⟩ := MapP.entry (K := iK) (E := iE) h Try.underlying46 (by omega) (x := x) hx
  exact ⟨stamp, w1, r1, ⟨r2.lt, fun w2 y hy hb => r4 w2 y hy hb hn⟩, r3⟩
end Go.Proofs.Ytbppamjogdjfkaa
set_option linter.unusedSimpArgs false
set_option linter.unusedVariables false
namespace Go.Proofs.Ytbppamjogdjfkaa
theorem take_snoc24 (A : List Int) (r : Int) (M : Nat) : (A ++ [r]).take M = if (A.take M).length < M then A.take M ++ [r] else A.take M := by
  rw [List.length_take]
  by_cases h : A.length < M
  · rw [if_pos (by omega), List.take_of_length_le (by simp; omega), List.take_of_length_le (by omega)]
  · rw [if_neg (by omega), List.take_append_of_le_length (by omega)]
def desc24 (n : Nat) : List Int := (regs24 n).reverse
theorem desc_at24 {n j : Nat} (h : j < n) : (desc24 n)[j]? = some ((n : Int) - 1 - j) := by
  unfold desc24
  rw [List.getElem?_reverse (by rw [regs24_len]; exact h), regs24_len]
  unfold regs24
  rw [List.getElem?_map, List.getElem?_range (by omega)]
  simp only [Option.map_some, Option.some.injEq]
  omega
/-- What stands in the row behind k sorts and j registers of the next. -/
def pre24 (m : Machine) : Nat → Nat → List Int
  | 0, j => ((desc24 m.regs.toNat).take j).filter fun r => decide (sort24 m r = 0)
  | k + 1, j => pre24 m k m.regs.toNat ++ ((desc24 m.regs.toNat).take j).filter fun r => decide (sort24 m r = k + 1)
theorem pre_step24 (m : Machine) (k j : Nat) (h : j < m.regs.toNat) : pre24 m k (j + 1) = pre24 m k j ++ (if sort24 m ((m.regs.toNat : Int) - 1 - j) = k then [(m.regs.toNat : Int) - 1 - j] else []) := by
  have hd := desc_at24 h
  have key : ∀ q : Nat, ((desc24 m.regs.toNat).take (j + 1)).filter (fun r => decide (sort24 m r = q)) = ((desc24 m.regs.toNat).take j).filter (fun r => decide (sort24 m r = q)) ++ (if sort24 m ((m.regs.toNat : Int) - 1 - j) = q then [(m.regs.toNat : Int) - 1 - j] else []) := fun q => by
    rw [List.take_add_one, hd, Option.toList_some, List.filter_append]
    congr 1
    generalize (m.regs.toNat : Int) - 1 - j = z
    by_cases hq : sort24 m z = q <;> simp [hq]
  cases k with
  | zero => exact key 0
  | succ k =>
    unfold pre24
    rw [key (k + 1), List.append_assoc]
theorem pre_next24 (m : Machine) (k : Nat) : pre24 m (k + 1) 0 = pre24 m k m.regs.toNat := by
  rw [pre24]
  simp
theorem desc_all24 (n : Nat) : (desc24 n).take n = desc24 n := List.take_of_length_le (by unfold desc24; rw [List.length_reverse, regs24_len]; exact Nat.le_refl _)
theorem pre_end24 (m : Machine) : pre24 m 4 0 = drow24 m := by
  rw [pre_next24]
  simp only [pre24, desc_all24]
  rfl
/-- One step of the document's loop. -/
theorem scr_step24 (m : Machine) (k j M : Nat) (h : j < m.regs.toNat) : (pre24 m k (j + 1)).take M = if sort24 m ((m.regs.toNat : Int) - 1 - j) = k ∧ ((pre24 m k j).take M).length < M then (pre24 m k j).take M ++ [(m.regs.toNat : Int) - 1 - j] else (pre24 m k j).take M := by
  rw [pre_step24 m k j h]
  by_cases hs : sort24 m ((m.regs.toNat : Int) - 1 - j) = k
  · rw [if_pos hs, take_snoc24]
    by_cases hl : ((pre24 m k j).take M).length < M
    · rw [if_pos hl, if_pos ⟨hs, hl⟩]
    · rw [if_neg hl, if_neg fun h => hl h.2]
  · rw [if_neg hs, List.append_nil, if_neg fun h => hs h.1]
/-- What the document's Pools have told behind j registers. -/
def upto24 (m : Machine) (many : Int) (f : Int → Bool) (j : Nat) : List Int := ((regs24 j).filter fun r => !hasI r ((row24 m).take many.toNat)).filter f
theorem regs24_succ (j : Nat) : regs24 (j + 1) = regs24 j ++ [(j : Int)] := by unfold regs24; rw [List.range_succ, List.map_append]; rfl
theorem upto_step24 (m : Machine) (many : Int) (f : Int → Bool) (j : Nat) : upto24 m many f (j + 1) = upto24 m many f j ++ (if hasI (j : Int) ((row24 m).take many.toNat) = false ∧ f j = true then [(j : Int)] else []) := by
  unfold upto24
  rw [regs24_succ, List.filter_append, List.filter_append]
  congr 1
  cases h1 : hasI (j : Int) ((row24 m).take many.toNat) <;> cases h2 : f j <;> simp [h1, h2]
theorem upto_zero24 (m : Machine) (many : Int) (f : Int → Bool) : upto24 m many f 0 = [] := rfl
theorem upto_safe24 {m : Machine} {many : Int} (h : fits24 m many = true) : upto24 m many (fun r => hasI r m.saved && !hasI r m.args) m.regs.toNat = safe24 m many := by unfold safe24; rw [if_pos h]; rfl
theorem upto_plain24 {m : Machine} {many : Int} (h : fits24 m many = true) : upto24 m many (fun r => !hasI r m.saved) m.regs.toNat ++ upto24 m many (fun r => hasI r m.saved && hasI r m.args) m.regs.toNat = plain24 m many := by unfold plain24; rw [if_pos h]; rfl
end Go.Proofs.Ytbppamjogdjfkaa
set_option linter.unusedSimpArgs false
set_option linter.unusedVariables false
namespace Go.Proofs.Ytbppamjogdjfkaa
/-- The document's registers behind some colors. -/
def dregs24 (p : Part) (acc : List (Int × Int)) : List Int := p.colors.map fun d => (acc.lookup d).getD (-1)
theorem dregs_nil24 (p : Part) : dregs24 p [] = List.replicate p.colors.length (-1) := by
  unfold dregs24
  induction p.colors with
  | nil => rfl
  | cons c l ih => rw [List.map_cons, ih, List.length_cons, List.replicate_succ]; rfl
theorem lookup_snoc24 : ∀ (acc : List (Int × Int)) (c r d : Int), c ∉ acc.map (·.1) → (acc ++ [(c, r)]).lookup d = if d = c then some r else acc.lookup d
  | [], c, r, d, _ => by
    rw [List.nil_append, List.lookup_cons]
    by_cases h : d = c
    · rw [if_pos h]; simp [h]
    · rw [if_neg h, show (d == c) = false by simpa using h]
  | x :: acc, c, r, d, h => by
    simp only [List.map_cons, List.mem_cons, not_or] at h
    rw [List.cons_append, List.lookup_cons, List.lookup_cons, lookup_snoc24 acc c r d h.2]
    by_cases hx : d = x.1
    · rw [show (d == x.1) = true by simpa using hx, if_neg (fun e : d = c => h.1 (by rw [← e]; exact hx)), if_neg (fun e : d = c => h.1 (by rw [← e]; exact hx))]
    · rw [show (d == x.1) = false by simpa using hx]
theorem dregs_step24 (p : Part) {acc : List (Int × Int)} {c : Int} (r : Int) (h : c ∉ acc.map (·.1)) : dregs24 p (acc ++ [(c, r)]) = p.colors.map fun d => if d = c then r else (acc.lookup d).getD (-1) := by
  unfold dregs24
  refine List.map_congr_left fun d _ => ?_
  rw [lookup_snoc24 acc c r d h]
  split <;> rfl
/-- Behind k of a part's variables. -/
def mid24 (p : Part) (acc : List (Int × Int)) (c r : Int) (k : Nat) : List Int := ((p.colors.take k).map fun d => if d = c then r else (acc.lookup d).getD (-1)) ++ ((p.colors.drop k).map fun d => (acc.lookup d).getD (-1))
theorem mid_zero24 (p : Part) (acc : List (Int × Int)) (c r : Int) : mid24 p acc c r 0 = dregs24 p acc := by unfold mid24 dregs24; simp
theorem mid_end24 (p : Part) {acc : List (Int × Int)} {c : Int} (r : Int) (h : c ∉ acc.map (·.1)) : mid24 p acc c r p.colors.length = dregs24 p (acc ++ [(c, r)]) := by rw [dregs_step24 p r h]; unfold mid24; simp
theorem mid_len24 (p : Part) (acc : List (Int × Int)) (c r : Int) (k : Nat) : (mid24 p acc c r k).length = p.colors.length := by unfold mid24; simp; omega
theorem mid_step24 (p : Part) (acc : List (Int × Int)) (c r : Int) {k : Nat} {d : Int} (hd : p.colors[k]? = some d) : mid24 p acc c r (k + 1) = if d = c then (mid24 p acc c r k).set k r else mid24 p acc c r k := by
  have hk : k < p.colors.length := (List.getElem?_eq_some_iff.1 hd).1
  have hdr : p.colors.drop k = d :: p.colors.drop (k + 1) := by
    rw [List.drop_eq_getElem_cons hk]
    rw [List.getElem?_eq_getElem hk] at hd
    rw [Option.some.inj hd]
  unfold mid24
  rw [List.take_add_one, hd, hdr, Option.toList_some, List.map_append, List.map_cons, List.append_assoc]
  have hlen : ((p.colors.take k).map fun d => if d = c then r else (acc.lookup d).getD (-1)).length = k := by rw [List.length_map, List.length_take]; omega
  by_cases h : d = c
  · rw [if_pos h, List.set_append_right _ _ (by omega), hlen, Nat.sub_self]
    simp [h]
  · rw [if_neg h]
    simp [h]
theorem dregs_told24 {m : Machine} {many : Int} {p : Part} {R : List (Int × Int)} {i : Nat} (h : Told24 m many p R) (hr : PartR24 p i (m.regs - many) m.regs) (hf : fits24 m many = true) : dregs24 p R = told24 (p, R) := by
  rw [told_colors24 R hr.lc hr.vr]
  unfold dregs24
  refine List.map_congr_left fun d hd => ?_
  have hff := hf
  unfold fits24 at hff
  simp only [Bool.and_eq_true, decide_eq_true_eq] at hff
  have hb := hr.c d hd
  have hno : d < 0 → R.lookup d = none := fun hn => by
    rw [List.lookup_eq_none_iff]
    intro e he
    have := h.acc.z e he
    simp
    omega
  by_cases h0 : d < 0
  · rw [if_pos h0, hno h0]
    rfl
  · rw [if_neg h0]
    have hin : d ∈ R.map (·.1) := by rw [h.fst]; exact colors_in24.2 ⟨by omega, hd⟩
    obtain ⟨e, he, rfl⟩ := List.mem_map.1 hin
    unfold look24
    cases hl : R.lookup e.1 with
    | some x => rfl
    | none =>
      rw [List.lookup_eq_none_iff] at hl
      have := hl e he
      simp at this
end Go.Proofs.Ytbppamjogdjfkaa
