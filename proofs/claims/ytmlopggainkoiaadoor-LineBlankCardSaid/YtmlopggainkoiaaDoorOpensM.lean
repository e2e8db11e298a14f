/- What an argument of a law reads as, each text and row of it within the reach. -/
import Derived.Test.YtmlopggainkoiaaDoorOpens
import Derived.SizedLaws
set_option linter.unusedSimpArgs false
set_option linter.unusedVariables false
namespace Go.Proofs.YtmlopggainkoiaaDoor
open Go.RowKit Go.ChangeShapes Go.WideShapes Go.ChangeAt

/-- Each text, each row of it is of M at most. -/
class Sm (α : Type) where
  sm : Nat → α → Prop
instance : Sm Int := ⟨fun _ _ => True⟩
instance : Sm Bool := ⟨fun _ _ => True⟩
instance : Sm ByteArray := ⟨fun M s => s.size ≤ M⟩
instance {α β : Type} [Sm α] [Sm β] : Sm (α × β) := ⟨fun M x => Sm.sm M x.1 ∧ Sm.sm M x.2⟩
instance {α : Type} [Sm α] : Sm (List α) := ⟨fun M l => l.length ≤ M ∧ ∀ x ∈ l, Sm.sm M x⟩
abbrev Sm.via {α β : Type} [Sm β] (f : α → β) : Sm α := ⟨fun M x => Sm.sm M (f x)⟩
def LeAll (M : Nat) (l : List Nat) : Prop := ∀ n ∈ l, n ≤ M
theorem LeAll.left {M : Nat} {l m : List Nat} (h : LeAll M (l ++ m)) : LeAll M l := fun n hn => h n (List.mem_append_left _ hn)
theorem LeAll.right {M : Nat} {l m : List Nat} (h : LeAll M (l ++ m)) : LeAll M m := fun n hn => h n (List.mem_append_right _ hn)

section
variable {P : Program}
def OpensM (P : Program) (α : Type) [Rep α] [Sm α] (t : TypeId) : Prop :=
  ∀ (M : Nat) (H : Type) (enc : TypeId × Value → H) (w : World) (fuel : Nat) (cs : List Value) (x : DataW H × List MemPlace), DataW.trod enc P w 0 (fun _ => true) true fuel t cs = some x →
    LeAll M (x.1.weights P t) → ∃ y : α, Rep.is w (fun _ => True) y cs ∧ Sm.sm M y
theorem opensM_int {t : TypeId} (ht : P.underlying t = some (.int .i64)) : OpensM P Int t := fun M H enc w fuel cs x h _ => by
  obtain ⟨n, rfl, rfl, hw⟩ := DataW.trod_int ht h
  exact ⟨n, ⟨rfl, inI_of hw⟩, trivial⟩
theorem opensM_bool {t : TypeId} (ht : P.underlying t = some .bool) : OpensM P Bool t := fun M H enc w fuel cs x h _ => by
  obtain ⟨b, rfl, rfl⟩ := DataW.trod_bool ht h
  exact ⟨b, rfl, trivial⟩
theorem opensM_string {t : TypeId} (ht : P.underlying t = some .string) : OpensM P ByteArray t := fun M H enc w fuel cs x h hl => by
  obtain ⟨s, rfl, rfl, hs⟩ := DataW.trod_string ht h
  refine ⟨s, ⟨rfl, hs⟩, ?_⟩
  have := hl s.data.toList.length (by simp [DataW.weights])
  rwa [Array.length_toList] at this
/-- The fields of a struct, from the one at offset o on. -/
def OpensMFs (P : Program) (o : Nat) (fs : List Field) (α : Type) [Rep α] [Sm α] : Prop :=
  ∀ (M : Nat) (H : Type) (enc : TypeId × Value → H) (w : World) (fuel : Nat) (cs : List Value) (xs : List (DataW H × List MemPlace)), xs.length = fs.length →
    (∀ (i : Nat) (f : Field), fs[i]? = some f → DataW.trod enc P w 0 (fun _ => true) true fuel f.type ((cs.drop f.offset).take (P.cellsOf f.type)) = xs[i]?) → cs.length = o + Rep.size α →
    LeAll M (DataW.weightsEach P (fs.map (·.type)) (xs.map (·.1))) → ∃ y : α, Rep.is w (fun _ => True) y (cs.drop o) ∧ Sm.sm M y
theorem fsM_one {α : Type} [Rep α] [Sm α] {o : Nat} {f : Field} (h : OpensM P α f.type) (ho : f.offset = o) (hc : P.cellsOf f.type = Rep.size α) : OpensMFs P o [f] α := fun M H enc w fuel cs xs hl hx hcs hle => by
  obtain ⟨x, rfl⟩ : ∃ x, xs = [x] := by
    match xs, hl with
    | [x], _ => exact ⟨x, rfl⟩
  have h0 := hx 0 f rfl
  obtain ⟨y, hy, hw⟩ := h M H enc w fuel _ x h0 (by simp only [List.map_cons, List.map_nil, DataW.weightsEach] at hle; exact hle.left)
  rw [ho, hc, List.take_of_length_le (by rw [List.length_drop]; omega)] at hy
  exact ⟨y, hy, hw⟩
theorem fsM_cons {α β : Type} [Rep α] [Sm α] [Rep β] [Sm β] {o : Nat} {f : Field} {fs : List Field} (h : OpensM P α f.type) (ho : f.offset = o) (hc : P.cellsOf f.type = Rep.size α) (hr : OpensMFs P (o + Rep.size α) fs β) : OpensMFs P o (f :: fs) (α × β) :=
  fun M H enc w fuel cs xs hl hx hcs hle => by
  obtain ⟨x, ys, rfl⟩ : ∃ x ys, xs = x :: ys := by
    match xs, hl with
    | x :: ys, _ => exact ⟨x, ys, rfl⟩
  have h0 := hx 0 f rfl
  simp only [List.map_cons, DataW.weightsEach] at hle
  obtain ⟨y, hy, hw⟩ := h M H enc w fuel _ x h0 hle.left
  obtain ⟨z, hz, hw'⟩ := hr M H enc w fuel cs ys (by simpa using hl) (fun i g hg => by have := hx (i + 1) g (by simpa using hg); simpa using this) (by rw [hcs]; simp [Rep.size]; omega) hle.right
  rw [ho, hc] at hy
  refine ⟨(y, z), ⟨_, _, ?_, hy, hz⟩, hw, hw'⟩
  rw [← List.drop_drop]
  exact (List.take_append_drop _ _).symm
theorem opensM_struct {α : Type} [Rep α] [Sm α] {t : TypeId} {fs : Array Field} (ht : P.underlying t = some (.struct fs)) (hf : OpensMFs P 0 fs.toList α) (hc : P.cellsOf t = Rep.size α) : OpensM P α t := fun M H enc w fuel cs x h hle => by
  obtain ⟨xs, n, rfl, rfl, hl, hxl, hx⟩ := DataW.trod_struct ht h
  simp only [DataW.weights, ht] at hle
  obtain ⟨y, hy, hw⟩ := hf M H enc w n cs xs (by simpa using hxl) (fun i f hi => hx i f (by simpa using hi)) (by rw [hl, hc, Nat.zero_add]) hle
  exact ⟨y, by simpa using hy, hw⟩
theorem weightsAll_at {H : Type} {e : TypeId} {M : Nat} : ∀ {l : List (DataW H × List MemPlace)}, LeAll M (DataW.weightsAll P e (l.map (·.1))) → ∀ (i : Nat) z, l[i]? = some z → LeAll M (z.1.weights P e)
  | [], _, i, z, h => by simp at h
  | x :: l, hl, 0, z, h => by
    simp only [List.map_cons, DataW.weightsAll] at hl
    simp only [List.getElem?_cons_zero, Option.some.injEq] at h
    subst h; exact hl.left
  | x :: l, hl, i + 1, z, h => by
    simp only [List.map_cons, DataW.weightsAll] at hl
    exact weightsAll_at hl.right i z (by simpa using h)
theorem opensM_slice {α : Type} [Rep α] [Sm α] {t e : TypeId} (ht : P.underlying t = some (.slice e)) (he : OpensM P α e) (hc : P.cellsOf e = Rep.size α) (hs : 0 < Rep.size α) (hby : 0 < P.bytesOf e) : OpensM P (List α) t := fun M H enc w fuel cs x h hle => by
  rcases DataW.trod_slice ht h with ⟨rfl, rfl⟩ | ⟨a, len, cap, elems, rest, n, _, rfl, rfl, _, hlc, hm, hlen, hel, _, _⟩
  · exact ⟨[], ⟨none, 0, 0, rfl, Sl.nil⟩, Nat.zero_le _, fun _ h => by cases h⟩
  · simp only [DataW.weights, ht] at hle
    have hlen2 : len ≤ M := by
      have := hle _ (List.mem_cons_self ..)
      rw [List.length_map, List.length_map, hlen] at this
      have h1 : len + rest.length ≤ (len + rest.length) * P.bytesOf e := Nat.le_mul_of_pos_right _ hby
      omega
    have hall := (show LeAll M (DataW.weightsAll P e (elems.map (·.1))) from fun n hn => hle n (List.mem_cons_of_mem _ (List.mem_append_left _ hn)))
    have key : ∀ i, i < len → ∃ y : α, (∃ us, w.cells? 0 (a.add (i * Rep.size α)) (Rep.size α) = some us ∧ Rep.is w (fun _ => True) y us) ∧ Sm.sm M y := by
      intro i hi
      have h1 := hel i hi
      rw [hc] at h1
      have hz : elems[i]? = some elems[i] := List.getElem?_eq_getElem (by omega)
      rw [hz, Option.bind_eq_some_iff] at h1
      obtain ⟨us, hus, hy⟩ := h1
      obtain ⟨y, hy1, hy2⟩ := he M H enc w n us _ hy (weightsAll_at hall i _ hz)
      exact ⟨y, ⟨us, hus, hy1⟩, hy2⟩
    have lst : ∀ k, k ≤ len → ∃ ys : List α, ys.length = k ∧ (∀ i y, ys[i]? = some y → ∃ us, w.cells? 0 (a.add (i * Rep.size α)) (Rep.size α) = some us ∧ Rep.is w (fun _ => True) y us) ∧ ∀ y ∈ ys, Sm.sm M y := by
      intro k
      induction k with
      | zero => intro _; exact ⟨[], rfl, fun i y h => by simp at h, fun _ h => by cases h⟩
      | succ k ih =>
        intro hk
        obtain ⟨ys, h1, h2, h3⟩ := ih (by omega)
        obtain ⟨y, hy1, hy2⟩ := key k (by omega)
        refine ⟨ys ++ [y], by simp [h1], fun i z hz => ?_, fun z hz => ?_⟩
        · by_cases hi : i < k
          · rw [List.getElem?_append_left (by omega)] at hz; exact h2 i z hz
          · have : i = k := by have := (List.getElem?_eq_some_iff.1 hz).1; simp [h1] at this; omega
            subst this
            rw [List.getElem?_append_right (by omega), h1] at hz
            simp at hz; subst hz; exact hy1
        · rcases List.mem_append.1 hz with hz | hz
          · exact h3 z hz
          · rw [List.mem_singleton] at hz; rw [hz]; exact hy2
    obtain ⟨ys, h1, h2, h3⟩ := lst len (Nat.le_refl _)
    refine ⟨ys, ⟨_, _, _, rfl, h1, hlc, hm, fun h => (by cases h), fun hn => ?_⟩, by rw [h1]; exact hlen2, h3⟩
    obtain ⟨b, off, spot⟩ := a
    have cellAt : ∀ (i : Nat) (us : List Value), w.cells? 0 ((⟨b, off, spot⟩ : Addr).add (i * Rep.size α)) (Rep.size α) = some us → ∀ j u, us[j]? = some u → w.cell? (((⟨b, off, spot⟩ : Addr).add (i * Rep.size α)).add j) = some u := by
      intro i us hus j u hj
      obtain ⟨hl, hcc⟩ := World.cells?_some hus
      have hjl := (List.getElem?_eq_some_iff.1 hj).1
      first | exact (hcc.2 j (by omega)).trans hj | exact (hcc j (by omega)).trans hj | (have := hcc.2 j (by omega); rw [this]; exact hj)
    obtain ⟨us0, hus0, hy0⟩ := h2 0 ys[0] (List.getElem?_eq_getElem (by omega))
    have hl0 := Rep.len hy0
    have hc0 := cellAt 0 us0 hus0 0 us0[0] (List.getElem?_eq_getElem (by omega))
    have hspot : spot = none := by simpa [Addr.add] using World.cell?_spot hc0
    subst hspot
    have hb : b < w.heap.size := by
      have := World.cells?_block hus0 hs
      simpa [Addr.add] using this
    refine ⟨b, off, rfl, hb, trivial, fun i y hi => ?_⟩
    obtain ⟨us, hus, hy⟩ := h2 i y hi
    refine ⟨us, hy, fun j u hj => ?_⟩
    have := cellAt i us hus j u hj
    have e : ((⟨b, off, none⟩ : Addr).add (i * Rep.size α)).add j = ⟨b, off + (i * Rep.size α + j), none⟩ := by
      unfold Addr.add
      split <;> split <;> simp_all <;> omega
    rw [e] at this
    exact this
/-- A slice as an argument. -/
theorem OpensM.slice {α : Type} [Rep α] [Sm α] {t e : TypeId} (ho : OpensM P (List α) t) (ht : P.underlying t = some (.slice e)) {M : Nat} {H : Type} {enc : TypeId × Value → H} {w : World} {base : Nat} {v : Value} {d : DataW H} {p : List MemPlace}
    (hv : Value.okWide P w .any base t v) (h : DataW.Trod enc P w 0 (fun _ => true) true t v d p) (hle : LeAll M (d.weights P t)) : ∃ (y : List α) (A : Option Addr) (n c : Nat), v = .slice A n c ∧ Sl w (fun _ => True) A n c y ∧ y.length ≤ M ∧ ∀ x ∈ y, Sm.sm M x := by
  obtain ⟨n, hn⟩ := h
  obtain ⟨y, ⟨A, k, c, hvs, hs⟩, h1, h2⟩ := ho M H enc w n _ _ hn hle
  refine ⟨y, A, k, c, ?_, hs, h1, h2⟩
  obtain ⟨a', k', c', rfl⟩ := okWide_slice ht hv
  simpa [Value.cells] using hvs
end
end Go.Proofs.YtmlopggainkoiaaDoor
