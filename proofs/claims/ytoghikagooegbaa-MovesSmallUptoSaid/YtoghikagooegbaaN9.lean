/- Walks: the program's moves: Right, ready, of, Delete. m[k]++: the entry, and what is written there. -/
import Derived.Test.YtoghikagooegbaaMV2
set_option linter.unusedSimpArgs false
set_option linter.unusedVariables false
namespace Go.Proofs.Ytoghikagooegbaa
open Go.RowKit Go.Maps

theorem mright_any (w : World) (S : Nat → Prop) (A : Option Addr) (n c : Nat) (xs : List Move) (h : Sl w S A n c xs) (hm : n ≤ 1048576) (t : Int) (ht : InI t) :
    Calls Try.prog 12 #[.slice A n c, .int .i64 t] w (RetX (.bool (rightM' xs (spL t))) w) := by
  have HS := hide h
  have HSP := hide (fun W => spare_any W t)
  obtain ⟨b1, hb1⟩ : ∃ b, okL (spL t) = b := ⟨_, rfl⟩
  obtain ⟨b2, hb2⟩ : ∃ b, soundM xs = b := ⟨_, rfl⟩
  obtain ⟨b3, hb3⟩ : ∃ b, namesM xs (spL t) = b := ⟨_, rfl⟩
  have HOK := hide (fun W => show Calls Try.prog 30 #[.agg #[.bool true, .int .i64 t]] W (RetX (.bool b1) W) from hb1 ▸ okp_any W (spL t) ht)
  have HSO := hide (fun u u' : Ext => hb2 ▸ sound_any ((w.ext u).ext u') _ A n c xs ((HS.out.ext u).ext u') hm)
  have HNA := hide (fun u u' u'' u3 : Ext => show Calls Try.prog 33 #[.slice A n c, .agg #[.bool true, .int .i64 t]] ((((w.ext u).ext u').ext u'').ext u3) (RetX (.bool b3) ((((w.ext u).ext u').ext u'').ext u3)) from hb3 ▸ names_any ((((w.ext u).ext u').ext u'').ext u3) _ A n c xs ((((HS.out.ext u).ext u').ext u'').ext u3) (spL t))
  unfold rightM'
  rw [hb1, hb2, hb3]
  clear h hb1 hb2 hb3
  go_enter Try.func12, Try.ntmps12
  cases b1 <;> cases b2
  all_goals
    go_wp2_with (first
      | (go_at_call 31; (with_reducible refine (HSP.out _).mono ?_); rintro e _ ⟨rfl, u1, rfl⟩)
      | (go_at_call 30; (with_reducible refine (HOK.out _).mono ?_); rintro e _ ⟨rfl, u2, rfl⟩)
      | (go_at_call 32; (with_reducible refine (HSO.out _ _).mono ?_); rintro e _ ⟨rfl, u3, rfl⟩)
      | (go_at_call 33; (with_reducible refine (HNA.out _ _ _ _).mono ?_); rintro e _ ⟨rfl, u4, rfl⟩))
    go_ret
    exact RetX.b (by simp) (by repeat (first | exact Below.refl _ _ | assumption | refine Below.alloc ?_ (by simp [size_ext]; try omega) _ | refine Below.ext ?_ (by simp [size_ext]; try omega) _ | refine Below.drew ?_ | refine Below.setCell ?_ (by simp [size_ext]; try omega) _))
/-- A step, as a value. -/
def stepV (m : Move) : Value := if m.dst.slot = true then .iface 74 (.agg #[.int .i64 m.dst.n, .int .i64 m.src.n]) else if m.src.slot = true then .iface 122 (.agg #[.int .i64 m.dst.n, .int .i64 m.src.n]) else .iface 124 (.agg #[.int .i64 m.dst.n, .int .i64 m.src.n])
theorem of_any' (w : World) (m : Move) : Calls Try.prog 39 #[.agg #[.bool m.src.slot, .int .i64 m.src.n, .bool m.dst.slot, .int .i64 m.dst.n]] w (RetX (stepV m) w) := by
  obtain ⟨⟨s1, n1⟩, ⟨s2, n2⟩⟩ := m
  go_enter Try.func39, Try.ntmps39
  cases s1 <;> cases s2
  all_goals
    go_wp2_with fail
    go_ret
    exact ⟨rfl, Below.to_ext (by repeat (first | exact Below.refl _ _ | assumption | refine Below.alloc ?_ (by simp [size_ext]; try omega) _ | refine Below.ext ?_ (by simp [size_ext]; try omega) _ | refine Below.drew ?_ | refine Below.setCell ?_ (by simp [size_ext]; try omega) _))⟩
/-- How many go from each place. -/
def manyF (l : List Move) : Loc → Option Int := fun p => if l.countP (fun m => decide (m.src = p)) = 0 then none else some (l.countP (fun m => decide (m.src = p)) : Nat)
theorem manyF_nil : manyF [] = fun _ => none := by funext p; simp [manyF]
theorem manyF_get (l : List Move) (p : Loc) : (manyF l p).getD 0 = (l.countP (fun m => decide (m.src = p)) : Nat) := by
  unfold manyF
  split
  · rename_i h; rw [h]; rfl
  · rfl
theorem manyF_snoc (l : List Move) (x : Move) : upd (manyF l) x.src (some ((l.countP (fun m => decide (m.src = x.src)) : Nat) + 1)) = manyF (l ++ [x]) := by
  funext p
  unfold upd manyF
  rw [List.countP_append]
  by_cases h : p = x.src
  · subst h; simp
  · have : ¬ x.src = p := fun e => h e.symm
    simp [h, this]
theorem manyF_zero (l : List Move) (p : Loc) : decide ((manyF l p).getD 0 = 0) = !goesB l p := by
  rw [manyF_get, Bool.eq_iff_iff]
  simp only [decide_eq_true_eq, Bool.not_eq_true', goesB_false]
  constructor
  · intro h x hx e
    have : 0 < l.countP (fun m => decide (m.src = p)) := List.countP_pos_iff.2 ⟨x, hx, by simpa using e⟩
    omega
  · intro h
    have : l.countP (fun m => decide (m.src = p)) = 0 := List.countP_eq_zero.2 fun x hx => by simpa using h x hx
    omega
def readyI (l : List Move) : Int := match readyM l with | some k => (k : Int) | none => -1
theorem idxF_find {α : Type} (f : α → Bool) : ∀ (l : List α) (k : Nat), idxF f k l = match l.findIdx? f with | some i => ((k + i : Nat) : Int) | none => -1 := by
  intro l
  induction l with
  | nil => intro k; rfl
  | cons a l ih =>
    intro k
    rw [List.findIdx?_cons]
    cases h : f a with
    | true => simp [idxF, h]
    | false =>
      simp only [idxF, h, Bool.false_eq_true, if_false]
      rw [ih (k + 1)]
      cases hq : l.findIdx? f with
      | none => rfl
      | some i => show (((k + 1 + i : Nat)) : Int) = ((k + (i + 1) : Nat) : Int); omega
theorem idx_ready (l : List Move) : idxF (fun m => !goesB l m.dst) 0 l = readyI l := by
  rw [idxF_find]
  unfold readyI readyM
  cases l.findIdx? (fun m => !goesB l m.dst) with
  | none => rfl
  | some i => simp
end Go.Proofs.Ytoghikagooegbaa
set_option linter.unusedSimpArgs false
set_option linter.unusedVariables false
namespace Go.Proofs.Ytoghikagooegbaa
open Go.RowKit Go.Maps
open Go.WideElems (Fit rd rg pl)
open Go.ChangeMaps Go.MapKept

theorem modify_congr {α : Type} {es : Array α} {j : Nat} {e : α} (h : es[j]? = some e) {f g : α → α} (hfg : f e = g e) : es.modify j f = es.modify j g := by
  apply Array.ext_getElem?
  intro i
  rw [Array.getElem?_modify, Array.getElem?_modify]
  by_cases hij : j = i
  · subst hij; simp [h, hfg]
  · simp [hij]
theorem modify_same {α : Type} {es : Array α} {j : Nat} {e : α} (h : es[j]? = some e) {f : α → α} (hf : f e = e) : es.modify j f = es := by
  apply Array.ext_getElem?
  intro i
  rw [Array.getElem?_modify]
  by_cases hij : j = i
  · subst hij; simp [h, hf]
  · simp [hij]
theorem born_at {es : Array MapEntry} {clock j : Nat} {e : MapEntry} (hs : MapKept.Stamped es clock) (h : es[j]? = some e) : es.findIdx? (fun x => (x.born : Int) == (e.born : Int)) = some j := by
  obtain ⟨hj, he⟩ := Array.getElem?_eq_some_iff.1 h
  rw [Array.findIdx?_eq_some_iff_getElem]
  refine ⟨hj, by rw [he]; simp, fun i hi => ?_⟩
  have hn := nodup_at.1 hs.2.1 i j
  have h1 : (es.toList.map (·.born))[i]? = some (es[i]'(by omega)).born := by rw [List.getElem?_map, Array.getElem?_toList, Array.getElem?_eq_getElem (by omega)]; rfl
  have h2 : (es.toList.map (·.born))[j]? = some e.born := by rw [List.getElem?_map, Array.getElem?_toList, h]; rfl
  have := hn _ _ h1 h2 (by omega)
  simp only [Bool.not_eq_true, beq_eq_false_iff_ne, ne_eq]
  omega
section
variable {H : Type} {P : Program} {t k e : TypeId} {R : Value → Option (DataW H × List MemPlace)} {w : World} {b : Nat} {es : Array MapEntry} {clock : Nat}
theorem run_entryStore (K : Keyed P k) (ht : P.underlying t = some (.map k e)) {key : Value} {kl : Lit} (hkey : keyOf P k key = some kl) (hb : w.heap[b]? = some (.map es clock)) (hs : MapKept.Stamped es clock)
    (hk : ∀ x ∈ es.toList, ∃ l, keyOf P k x.key = some l) {j : Nat} {e0 : MapEntry} (h0 : es[j]? = some e0) (hk0 : e0.key = key) (val : Value) :
    (Instr.entryStore t (.map (some b)) (.int .i64 e0.born) val).run P w = (Instr.mapUpdate t (.map (some b)) key val).run P w := by
  have h0' : es.toList[j]? = some e0 := by rw [Array.getElem?_toList]; exact h0
  rcases K.find w hkey es.toList hk with ⟨h1, h2⟩ | ⟨i, e1, h1, h2, h3⟩
  · exact absurd hk0 (h2 e0 (List.mem_of_getElem? h0'))
  · have hij : i = j := by
      by_cases hij : i = j
      · exact hij
      · exact absurd (h3.trans hk0.symm) (nodup_at.1 hs.2.2 i j e1.key e0.key (by rw [List.getElem?_map, h2]; rfl) (by rw [List.getElem?_map, h0']; rfl) hij)
    subst hij
    rw [h0'] at h2
    injection h2 with h2
    subst h2
    have e2 := modify_congr (f := fun x : MapEntry => { x with val := val }) (g := fun x : MapEntry => { x with key := key, val := val }) h0 (by rw [← hk0])
    have hf := born_at hs h0
    simp [Instr.mapUpdate, Instr.entryStore, asInt, asIntOf, run_underlying ht, MapKept.run_getObj_map hb, K.check w false hkey, h1, h0, hk0, K.stays w hkey, MapKept.run_setObj_map _ hb, Result.andThen, hf, e2]
theorem run_entry (K : Keyed P k) (ht : P.underlying t = some (.map k e)) {z : Value} (hz : (zeroValue e).run P w = .ok z w) (hb : w.heap[b]? = some (.map es clock)) (F : Fit P k R es clock) {key : Value} {kl : Lit} (hkey : keyOf P k key = some kl) :
    ∃ (v : Value) (stamp : Nat) (w1 : World), (Instr.lookup t (.map (some b)) key false).run P w = .ok v w ∧ (Instr.mapEntry t (.map (some b)) key).run P w = .ok (.tuple #[v, .int .i64 stamp]) w1 ∧ (Instr.mapUpdate t (.map (some b)) key v).run P w = .ok () w1 ∧
      ∀ (w2 : World) (val : Value), w2.heap[b]? = w1.heap[b]? → (Instr.entryStore t (.map (some b)) (.int .i64 stamp) val).run P w2 = (Instr.mapUpdate t (.map (some b)) key val).run P w2 := by
  rcases K.find w hkey es.toList F.keys with ⟨h1, h2⟩ | ⟨j, e0, h1, h2, h3⟩
  · refine ⟨z, clock, setBlock w b (.map (es.push ⟨key, z, clock⟩) (clock + 1)), ?_, ?_, ?_, fun w2 val hw2 => ?_⟩
    · simp [Instr.lookup, run_underlying ht, MapKept.run_getObj_map hb, K.check w _ hkey, h1, hz, Result.andThen]
    · simp [Instr.mapEntry, goInt, run_underlying ht, MapKept.run_getObj_map hb, K.check w false hkey, h1, hz, MapKept.run_setObj_map _ hb, Result.andThen, setBlock]
    · simp [Instr.mapUpdate, run_underlying ht, MapKept.run_getObj_map hb, K.check w false hkey, h1, MapKept.run_setObj_map _ hb, Result.andThen, setBlock]
    · have hb2 : w2.heap[b]? = some (.map (es.push ⟨key, z, clock⟩) (clock + 1)) := by rw [hw2]; exact heap_setBlock_same hb _
      exact run_entryStore K ht hkey hb2 (stamped_push F.stamped h2) (fun x hx => by
        simp only [Array.toList_push, List.mem_append, List.mem_singleton] at hx
        rcases hx with hx | rfl
        · exact F.keys x hx
        · exact ⟨kl, hkey⟩) (j := es.size) (e0 := ⟨key, z, clock⟩) (by simp) rfl val
  · have hj : es[j]? = some e0 := by simpa using h2
    have e1 := modify_same (f := fun x : MapEntry => { x with key := key }) hj (by rw [← h3])
    have e2 := modify_same (f := fun x : MapEntry => { x with key := key, val := e0.val }) hj (by rw [← h3])
    refine ⟨e0.val, e0.born, setBlock w b (.map es clock), ?_, ?_, ?_, fun w2 val hw2 => ?_⟩
    · simp [Instr.lookup, run_underlying ht, MapKept.run_getObj_map hb, K.check w _ hkey, h1, Result.andThen]
    · simp [Instr.mapEntry, goInt, run_underlying ht, MapKept.run_getObj_map hb, K.check w false hkey, h1, hj, h3, K.stays w hkey, MapKept.run_setObj_map _ hb, Result.andThen, setBlock, e1]
    · simp [Instr.mapUpdate, run_underlying ht, MapKept.run_getObj_map hb, K.check w false hkey, h1, hj, h3, K.stays w hkey, MapKept.run_setObj_map _ hb, Result.andThen, setBlock, e2]
    · have hb2 : w2.heap[b]? = some (.map es clock) := by rw [hw2]; exact heap_setBlock_same hb _
      exact run_entryStore K ht hkey hb2 F.stamped F.keys hj h3 val
end
section
variable {P : Program} {α β : Type} {K : KeyT P α} {E : ElT P β} {w w' : World} {b n : Nat} {f : α → Option β}
/-- The entry of a key, and what is written there. -/
theorem MapP.entry [DecidableEq α] (h : MapP K E w b n f) {t : TypeId} (ht : P.underlying t = some (.map K.t E.e)) (hn : n < maxLen) {x : α} (hx : K.good x) :
    ∃ (stamp : Nat) (w1 : World), (Instr.mapEntry t (.map (some b)) (K.val x)).run P w = .ok (.tuple #[E.val ((f x).getD E.zero), .int .i64 stamp]) w1 ∧ MapP K E w1 b (n + 1) (upd f x (some ((f x).getD E.zero))) ∧ w.grownBy w1 (some b) ∧
      ∀ (w2 : World) (y : β), E.good y → w2.heap[b]? = w1.heap[b]? → n + 1 < maxLen → ∃ w3, (Instr.entryStore t (.map (some b)) (.int .i64 stamp) (E.val y)).run P w2 = .ok () w3 ∧ MapP K E w3 b (n + 2) (upd f x (some y)) ∧ w2.grownBy w3 (some b) := by
  have hget := h.get ht hx
  obtain ⟨D, ⟨es, clock, hb, F, hs, hD⟩, h2⟩ := id h
  obtain ⟨v, stamp, w1, r1, r2, r3, r4⟩ := run_entry K.law ht (E.zero_run w) hb F (K.of x hx)
  rw [hget] at r1
  injection r1 with r1 _
  subst r1
  obtain ⟨w1', u1, u2, u3⟩ := h.put ht hn hx (h.getD_good x)
  rw [r3] at u1
  injection u1 with _ u1
  subst u1
  refine ⟨stamp, w1, r2, u2, u3, fun w2 y hy hw2 hn2 => ?_⟩
  have m2 : MapP K E w2 b (n + 1) (upd f x (some ((f x).getD E.zero))) := u2.keep hw2
  obtain ⟨w3, q1, q2, q3⟩ := m2.put ht hn2 hx hy
  refine ⟨w3, (r4 w2 _ hw2).trans q1, ?_, q3⟩
  have e : upd (upd f x (some ((f x).getD E.zero))) x (some y) = upd f x (some y) := by
    funext z; unfold upd; split <;> rfl
  rw [e] at q2
  exact q2
end
end Go.Proofs.Ytoghikagooegbaa
