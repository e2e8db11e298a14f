/- What an argument of a law reads as; a law's row out of its walk. The program's structs, and what they read as. Written by gen_types.py. law24: machines, parts, lists, as arguments. -/
import Derived.Test.YtbppamjogdjfkaaTypes
import Derived.ProofKit
import Derived.OpenShut
import Derived.JoinedCond
import Derived.Carry
set_option linter.unusedSimpArgs false
set_option linter.unusedVariables false
namespace Go.Proofs.Ytbppamjogdjfkaa
open Go.RowKit Go.ChangeShapes Go.WideShapes Go.ChangeAt

/-- How great something is: values and letters. -/
class Wt (α : Type) where
  wt : α → Nat
instance : Wt Int := ⟨fun _ => 1⟩
instance : Wt Bool := ⟨fun _ => 1⟩
instance : Wt ByteArray := ⟨fun s => s.size + 1⟩
instance {α β : Type} [Wt α] [Wt β] : Wt (α × β) := ⟨fun x => Wt.wt x.1 + Wt.wt x.2⟩
def wtL {α : Type} [Wt α] : List α → Nat
  | [] => 0
  | x :: l => Wt.wt x + wtL l
instance {α : Type} [Wt α] : Wt (List α) := ⟨fun l => wtL l + 1⟩
abbrev Wt.via {α β : Type} [Wt β] (f : α → β) : Wt α := ⟨fun x => Wt.wt (f x)⟩
theorem wt_mem {α : Type} [Wt α] {x : α} : ∀ {l : List α}, x ∈ l → Wt.wt x ≤ wtL l
  | y :: l, h => by
    simp only [wtL]
    rcases List.mem_cons.1 h with rfl | h
    · omega
    · have := wt_mem h; omega
theorem wt_len {α : Type} [Wt α] (h1 : ∀ x : α, 1 ≤ Wt.wt x) : ∀ (l : List α), l.length ≤ wtL l
  | [] => by simp [wtL]
  | x :: l => by have := wt_len h1 l; have := h1 x; simp only [wtL, List.length_cons]; omega

section
variable {P : Program}
def Opens (P : Program) (α : Type) [Rep α] [Wt α] (t : TypeId) : Prop :=
  ∀ (H : Type) (enc : TypeId × Value → H) (w : World) (fuel : Nat) (cs : List Value) (x : DataW H × List MemPlace), DataW.trod enc P w 0 (fun _ => true) true fuel t cs = some x →
    ∃ y : α, Rep.is w (fun _ => True) y cs ∧ Wt.wt y ≤ Rows.uptoBulk x.1
theorem inI_of {n : Int} (h : (Lit.int .i64 n).wf = true) : InI n := by
  have : -9223372036854775808 ≤ n ∧ n ≤ 9223372036854775807 := by simpa [Lit.wf, IntKind.min, IntKind.max, IntKind.signed, IntKind.bits] using h
  exact this
theorem opens_int {t : TypeId} (ht : P.underlying t = some (.int .i64)) : Opens P Int t := fun H enc w fuel cs x h => by
  obtain ⟨n, rfl, rfl, hw⟩ := DataW.trod_int ht h
  exact ⟨n, ⟨rfl, inI_of hw⟩, by simp [Wt.wt, Rows.uptoBulk]⟩
theorem opens_bool {t : TypeId} (ht : P.underlying t = some .bool) : Opens P Bool t := fun H enc w fuel cs x h => by
  obtain ⟨b, rfl, rfl⟩ := DataW.trod_bool ht h
  exact ⟨b, rfl, by simp [Wt.wt, Rows.uptoBulk]⟩
theorem opens_string {t : TypeId} (ht : P.underlying t = some .string) : Opens P ByteArray t := fun H enc w fuel cs x h => by
  obtain ⟨s, rfl, rfl, hs⟩ := DataW.trod_string ht h
  exact ⟨s, ⟨rfl, hs⟩, by simp only [Wt.wt, Rows.uptoBulk]; have : s.data.toList.length = s.size := by rw [Array.length_toList]; rfl
                          omega⟩
/-- The fields of a struct, from the one at offset o on. -/
def OpensFs (P : Program) (o : Nat) (fs : List Field) (α : Type) [Rep α] [Wt α] : Prop :=
  ∀ (H : Type) (enc : TypeId × Value → H) (w : World) (fuel : Nat) (cs : List Value) (xs : List (DataW H × List MemPlace)), xs.length = fs.length →
    (∀ (i : Nat) (f : Field), fs[i]? = some f → DataW.trod enc P w 0 (fun _ => true) true fuel f.type ((cs.drop f.offset).take (P.cellsOf f.type)) = xs[i]?) → cs.length = o + Rep.size α →
    ∃ y : α, Rep.is w (fun _ => True) y (cs.drop o) ∧ Wt.wt y ≤ Rows.uptoBulkAll (xs.map (·.1))
theorem fs_one {α : Type} [Rep α] [Wt α] {o : Nat} {f : Field} (h : Opens P α f.type) (ho : f.offset = o) (hc : P.cellsOf f.type = Rep.size α) : OpensFs P o [f] α := fun H enc w fuel cs xs hl hx hcs => by
  obtain ⟨x, rfl⟩ : ∃ x, xs = [x] := by
    match xs, hl with
    | [x], _ => exact ⟨x, rfl⟩
  have h0 := hx 0 f rfl
  obtain ⟨y, hy, hw⟩ := h H enc w fuel _ x h0
  rw [ho, hc, List.take_of_length_le (by rw [List.length_drop]; omega)] at hy
  exact ⟨y, hy, by simpa [Rows.uptoBulkAll] using hw⟩
theorem fs_cons {α β : Type} [Rep α] [Wt α] [Rep β] [Wt β] {o : Nat} {f : Field} {fs : List Field} (h : Opens P α f.type) (ho : f.offset = o) (hc : P.cellsOf f.type = Rep.size α) (hr : OpensFs P (o + Rep.size α) fs β) : OpensFs P o (f :: fs) (α × β) :=
  fun H enc w fuel cs xs hl hx hcs => by
  obtain ⟨x, ys, rfl⟩ : ∃ x ys, xs = x :: ys := by
    match xs, hl with
    | x :: ys, _ => exact ⟨x, ys, rfl⟩
  have h0 := hx 0 f rfl
  obtain ⟨y, hy, hw⟩ := h H enc w fuel _ x h0
  obtain ⟨z, hz, hw'⟩ := hr H enc w fuel cs ys (by simpa using hl) (fun i g hg => by have := hx (i + 1) g (by simpa using hg); simpa using this) (by rw [hcs]; simp [Rep.size]; omega)
  rw [ho, hc] at hy
  refine ⟨(y, z), ⟨_, _, ?_, hy, hz⟩, by simp only [Wt.wt, List.map_cons, Rows.uptoBulkAll] at *; omega⟩
  rw [← List.drop_drop]
  exact (List.take_append_drop _ _).symm
theorem opens_struct {α : Type} [Rep α] [Wt α] {t : TypeId} {fs : Array Field} (ht : P.underlying t = some (.struct fs)) (hf : OpensFs P 0 fs.toList α) (hc : P.cellsOf t = Rep.size α) : Opens P α t := fun H enc w fuel cs x h => by
  obtain ⟨xs, n, rfl, rfl, hl, hxl, hx⟩ := DataW.trod_struct ht h
  obtain ⟨y, hy, hw⟩ := hf H enc w n cs xs (by simpa using hxl) (fun i f hi => hx i f (by simpa using hi)) (by rw [hl, hc, Nat.zero_add])
  exact ⟨y, by simpa using hy, by simp only [Rows.uptoBulk]; omega⟩
theorem opens_arr2 {t e : TypeId} (ht : P.underlying t = some (.array 2 e)) (he : P.underlying e = some (.int .i64)) (hc : P.cellsOf t = 2) (hce : P.cellsOf e = 1) : Opens P (Int × Int) t := fun H enc w fuel cs x h => by
  cases fuel with
  | zero => simp [DataW.trod] at h
  | succ n =>
    unfold DataW.trod at h
    rw [ht] at h
    simp only [hc, hce] at h
    split at h
    · rename_i hl
      match cs, hl with
      | [c0, c1], _ =>
        simp only [List.range, List.range.loop, Option.map_eq_some_iff] at h
        obtain ⟨xs, hxs, rfl⟩ := h
        simp only [List.mapM_cons, List.mapM_nil, Option.bind_eq_bind, Option.bind_eq_some_iff, Option.pure_def, Option.some.injEq] at hxs
        obtain ⟨a, ha, r, ⟨b, hb, r', hr', rfl⟩, rfl⟩ := hxs
        subst hr'
        simp at ha hb
        obtain ⟨m0, e0, rfl, hw0⟩ := DataW.trod_int he ha
        obtain ⟨m1, e1, rfl, hw1⟩ := DataW.trod_int he hb
        injection e0 with e0 _; injection e1 with e1 _
        subst e0 e1
        exact ⟨(m0, m1), ⟨[.int .i64 m0], [.int .i64 m1], rfl, ⟨rfl, inI_of hw0⟩, ⟨rfl, inI_of hw1⟩⟩, by simp [Wt.wt, Rows.uptoBulk, Rows.uptoBulkAll]⟩
    · cases h
theorem opens_slice {α : Type} [Rep α] [Wt α] {t e : TypeId} (ht : P.underlying t = some (.slice e)) (he : Opens P α e) (hc : P.cellsOf e = Rep.size α) (hs : 0 < Rep.size α) : Opens P (List α) t := fun H enc w fuel cs x h => by
  rcases DataW.trod_slice ht h with ⟨rfl, rfl⟩ | ⟨a, len, cap, elems, rest, n, _, rfl, rfl, _, hlc, hm, hlen, hel, _, _⟩
  · exact ⟨[], ⟨none, 0, 0, rfl, Sl.nil⟩, by simp [Wt.wt, wtL, Rows.uptoBulk]⟩
  · have key : ∀ i, i < len → ∃ y : α, (∃ us, w.cells? 0 (a.add (i * Rep.size α)) (Rep.size α) = some us ∧ Rep.is w (fun _ => True) y us) ∧ ∀ z, elems[i]? = some z → Wt.wt y ≤ Rows.uptoBulk z.1 := by
      intro i hi
      have h1 := hel i hi
      rw [hc] at h1
      have hz : elems[i]? = some elems[i] := List.getElem?_eq_getElem (by omega)
      rw [hz, Option.bind_eq_some_iff] at h1
      obtain ⟨us, hus, hy⟩ := h1
      obtain ⟨y, hy1, hy2⟩ := he H enc w n us _ hy
      exact ⟨y, ⟨us, hus, hy1⟩, fun z e => by rw [hz] at e; injection e with e; subst e; exact hy2⟩
    have lst : ∀ k, k ≤ len → ∃ ys : List α, ys.length = k ∧ (∀ i y, ys[i]? = some y → ∃ us, w.cells? 0 (a.add (i * Rep.size α)) (Rep.size α) = some us ∧ Rep.is w (fun _ => True) y us) ∧ wtL ys ≤ Rows.uptoBulkAll ((elems.take k).map (·.1)) := by
      intro k
      induction k with
      | zero => intro _; exact ⟨[], rfl, fun i y h => by simp at h, by simp [wtL, Rows.uptoBulkAll]⟩
      | succ k ih =>
        intro hk
        obtain ⟨ys, h1, h2, h3⟩ := ih (by omega)
        obtain ⟨y, hy1, hy2⟩ := key k (by omega)
        refine ⟨ys ++ [y], by simp [h1], fun i z hz => ?_, ?_⟩
        · by_cases hi : i < k
          · rw [List.getElem?_append_left (by omega)] at hz; exact h2 i z hz
          · have : i = k := by have := (List.getElem?_eq_some_iff.1 hz).1; simp [h1] at this; omega
            subst this
            rw [List.getElem?_append_right (by omega), h1] at hz
            simp at hz; subst hz; exact hy1
        · have hkl : k < elems.length := by omega
          rw [List.take_succ_eq_append_getElem hkl]
          have e1 : ∀ (l m : List α), wtL (l ++ m) = wtL l + wtL m := by
            intro l m; induction l with
            | nil => simp [wtL]
            | cons x l ih => simp only [List.cons_append, wtL, ih]; omega
          have e2 : ∀ (l m : List (DataW H)), Rows.uptoBulkAll (l ++ m) = Rows.uptoBulkAll l + Rows.uptoBulkAll m := by
            intro l m; induction l with
            | nil => simp [Rows.uptoBulkAll]
            | cons x l ih => simp only [List.cons_append, Rows.uptoBulkAll, ih]; omega
          rw [e1, List.map_append, e2]
          have := hy2 _ (List.getElem?_eq_getElem hkl)
          simp only [wtL, List.map_cons, List.map_nil, Rows.uptoBulkAll]; omega
    obtain ⟨ys, h1, h2, h3⟩ := lst len (Nat.le_refl _)
    rw [List.take_of_length_le (by omega)] at h3
    refine ⟨ys, ⟨_, _, _, rfl, h1, hlc, hm, fun h => (by cases h), fun hn => ?_⟩, by simp only [Wt.wt, Rows.uptoBulk]; omega⟩
    obtain ⟨b, off, spot⟩ := a
    have cellAt : ∀ (i : Nat) (us : List Value), w.cells? 0 ((⟨b, off, spot⟩ : Addr).add (i * Rep.size α)) (Rep.size α) = some us → ∀ j u, us[j]? = some u → w.cell? (((⟨b, off, spot⟩ : Addr).add (i * Rep.size α)).add j) = some u := by
      intro i us hus j u hj
      obtain ⟨hl, hcc⟩ := World.cells?_some hus
      have hjl := (List.getElem?_eq_some_iff.1 hj).1
      first | exact (hcc.2 j (by omega)).trans hj | exact (hcc j (by omega)).trans hj | (have := hcc.2 j (by omega); rw [this]; exact hj)
    obtain ⟨us0, hus0, hy0⟩ := h2 0 ys[0] (List.getElem?_eq_getElem (by omega))
    have hl0 := Rep.len hy0
    have hc0 := cellAt 0 us0 hus0 0 us0[0] (List.getElem?_eq_getElem (by omega))
    have hspot : spot = none := by simpa [Addr.add] using World.cell?_spot hc0
    subst hspot
    have hb : b < w.heap.size := by
      have := World.cells?_block hus0 hs
      simpa [Addr.add] using this
    refine ⟨b, off, rfl, hb, trivial, fun i y hi => ?_⟩
    obtain ⟨us, hus, hy⟩ := h2 i y hi
    refine ⟨us, hy, fun j u hj => ?_⟩
    have := cellAt i us hus j u hj
    have e : ((⟨b, off, none⟩ : Addr).add (i * Rep.size α)).add j = ⟨b, off + (i * Rep.size α + j), none⟩ := by
      unfold Addr.add
      split <;> split <;> simp_all <;> omega
    rw [e] at this
    exact this
/-- An argument whose value is a struct or an array: its cells. -/
theorem arg_agg {t : TypeId} {w : World} {base : Nat} {v : Value} {fs : Array Field} (ht : P.underlying t = some (.struct fs)) (h : Value.okWide P w .any base t v) : ∃ cs, v = .agg cs ∧ v.cells.toList = cs.toList := by
  unfold Value.okWide at h
  rw [ht] at h
  obtain ⟨cs, rfl, _⟩ := h
  exact ⟨cs, rfl, by simp [Value.cells]⟩
theorem Opens.agg {α : Type} [Rep α] [Wt α] {t : TypeId} {fs : Array Field} (ho : Opens P α t) (ht : P.underlying t = some (.struct fs)) {H : Type} {enc : TypeId × Value → H} {w : World} {base : Nat} {v : Value} {d : DataW H} {p : List MemPlace}
    (hv : Value.okWide P w .any base t v) (h : DataW.Trod enc P w 0 (fun _ => true) true t v d p) : ∃ (y : α) (us : List Value), v = .agg us.toArray ∧ Rep.is w (fun _ => True) y us ∧ Wt.wt y ≤ Rows.uptoBulk d := by
  obtain ⟨n, hn⟩ := h
  obtain ⟨cs, rfl, hcs⟩ := arg_agg ht hv
  rw [hcs] at hn
  obtain ⟨y, hy, hw⟩ := ho H enc w n _ _ hn
  exact ⟨y, cs.toList, by simp, hy, hw⟩
/-- The arguments read behind the call as they did. -/
theorem trodAll_stays {H : Type} {enc : TypeId × Value → H} (hl : laidOutB P = true) {W W' : World} (hb : Below W.heap.size W W') : ∀ {ts : List TypeId} {vs : List Value} {ds : List (DataW H)} {ps : List MemPlace},
    ts.all (fun t => P.readableRec t && decide (t < P.types.size)) = true → DataW.TrodAll enc P W 0 (fun _ => true) true ts vs ds ps → (∀ x ∈ ps, x.block < W.heap.size) → ∀ sp : Nat → Bool, (∀ p ∈ ps, sp p.block = true) → DataW.TrodAll enc P W' 0 sp true ts vs ds ps
  | [], [], [], ps, _, h, _, _, _ => h
  | t :: ts, v :: vs, d :: ds, ps, hr, h, hlt, sp, hsp => by
    obtain ⟨p, q, h0, h1, rfl⟩ := h
    simp only [List.all_cons, Bool.and_eq_true, decide_eq_true_eq] at hr
    exact ⟨p, q, WideElems.Trod_stays hl hr.1.1 hr.1.2 h0 (fun x hx => hb.same (hlt x (List.mem_append_left _ hx))) (fun x hx => hsp x (List.mem_append_left _ hx)),
      trodAll_stays hl hb hr.2 h1 (fun x hx => hlt x (List.mem_append_right _ hx)) sp (fun x hx => hsp x (List.mem_append_right _ hx)), rfl⟩
theorem post_law {H : Type} {enc : TypeId × Value → H} {f : Func} {s : ChangeSpec} {apart fresh handsOn again : Bool} {W W' : World} {args : Array Value} {ds gs : List (DataW H)} {before : List MemPlace} {tb : TypeId}
    (hl : laidOutB P = true) (hr : f.params.toList.all (fun t => P.readableRec t && decide (t < P.types.size)) = true) (htb : f.resultTypes = #[tb]) (hbool : P.underlying tb = some .bool) (hvars : s.vars = [])
    (hW : DataW.Whole enc P f.params.toList s.vars apart W args.toList ds gs before) (hres : (s.fn H (ds ++ gs)).results = [.lit (.bool true)]) (hargs : (s.fn H (ds ++ gs)).args = ds) (hvs : (s.fn H (ds ++ gs)).vars = []) (hb : Below W.heap.size W W') :
    s.post enc P f apart fresh handsOn again W args (.bool true) W' := by
  have hlt : ∀ p ∈ before, p.block < W.heap.size := fun p hp => hW.lt p hp
  have hold : ∀ p ∈ before, (fun b => decide (b < W.heap.size)) p.block = true := fun p hp => by simpa using hlt p hp
  have hW0 := hW
  obtain ⟨p, q, hA, hV, hpq, hz, hn⟩ := hW
  rw [hvars] at hV
  obtain ⟨rfl, rfl⟩ := trodVars_none hV
  rw [List.append_nil] at hpq
  subst hpq
  have hst : ∀ sp : Nat → Bool, (∀ p ∈ before, sp p.block = true) → DataW.TrodAll enc P W' 0 sp true f.params.toList args.toList (s.fn H (ds ++ [])).args before := fun sp hsp => by
    rw [hargs]; exact trodAll_stays hl hb hr hA hlt sp hsp
  have hres' : ∀ (b : Nat) (sp : Nat → Bool) (hd : Bool), DataW.TrodAll enc P W' b sp hd f.resultTypes.toList ((Value.bool true).resultList f.resultTypes.size) (s.fn H (ds ++ [])).results [] := fun b sp hd => by
    rw [hres, htb]; exact trodAll_cons_mk (shut_bool hbool _) trodAll_mk0
  have hv0 : ∀ sp : Nat → Bool, DataW.TrodVars enc P W' sp s.vars (s.fn H (ds ++ [])).vars [] := fun sp => by rw [hvs, hvars]; rfl
  refine ⟨ds, [], before, [], before, [], hW0, hres' _ _ _, hst _ hold, hv0 _, World.keptBut_mono (fun p hp => ⟨hp, Or.inr (by simpa using hp)⟩) (hb.frame (· ∈ before)), fun _ => ?_⟩
  refine ⟨?_, _, _, ([] ++ before) ++ [], ⟨[] ++ before, [], trodAll_append (hst _ (fun _ _ => rfl)) (hres' _ _ _), hv0 _, rfl, ?_, ?_⟩, ?_⟩
  · exact ok_one htb rfl (okWide_bool_mk hbool _)
  · intro b off hp
    have hin : MemPlace.cell b off ∈ before := by simpa using hp
    rw [hb.frozen (hlt _ hin)]
    exact hz b off (by simpa using hin)
  · intro ha
    have := hn ha
    simpa using this
  · intro p hp _
    simpa using hp
theorem bulk_part {H : Type} {d : DataW H} {l : List (DataW H)} (h : d ∈ l) : Rows.uptoBulk d ≤ Rows.uptoBulkAll l := by
  induction l with
  | nil => cases h
  | cons x r ih =>
    simp only [Rows.uptoBulkAll]
    rcases List.mem_cons.1 h with rfl | h
    · omega
    · have := ih h; omega
theorem bulk_small {H : Type} {l : List (DataW H)} (hk : Rows.uptoSmall H l = true) : Rows.uptoBulkAll l ≤ 1048576 := of_decide_eq_true hk
end
end Go.Proofs.Ytbppamjogdjfkaa
set_option linter.unusedSimpArgs false
set_option linter.unusedVariables false
namespace Go.Proofs.Ytbppamjogdjfkaa
open Go.RowKit

structure Part where
  parent : Int
  vars : List Int
  colors : List Int
  wish : List Int
  deriving DecidableEq, Inhabited
instance : Rep Part := Rep.via fun x => (x.parent, x.vars, x.colors, x.wish)
theorem Part.open_ {w : World} {S : Nat → Prop} {x : Part} {vs : List Value} (h : Rep.is w S x vs) : ∃ Avars : Option Addr, ∃ nvars : Nat, ∃ cvars : Nat, ∃ Acolors : Option Addr, ∃ ncolors : Nat, ∃ ccolors : Nat, ∃ Awish : Option Addr, ∃ nwish : Nat, ∃ cwish : Nat, vs = [.int .i64 x.parent, .slice Avars nvars cvars, .slice Acolors ncolors ccolors, .slice Awish nwish cwish] ∧ InI x.parent ∧ Sl w S Avars nvars cvars x.vars ∧ Sl w S Acolors ncolors ccolors x.colors ∧ Sl w S Awish nwish cwish x.wish := by
  obtain ⟨us0, ts0, e0, h0, r0⟩ := h
  obtain ⟨us1, ts1, e1, h1, r1⟩ := r0
  obtain ⟨us2, ts2, e2, h2, r2⟩ := r1
  obtain ⟨v3, f3⟩ := h0
  obtain ⟨A4, n4, c4, v4, f4⟩ := h1
  obtain ⟨A5, n5, c5, v5, f5⟩ := h2
  obtain ⟨A6, n6, c6, v6, f6⟩ := r2
  refine ⟨A4, n4, c4, A5, n5, c5, A6, n6, c6, ?_, f3, f4, f5, f6⟩
  subst_vars; simp
theorem Part.mk_ {w : World} {S : Nat → Prop} {x : Part} {Avars : Option Addr} {nvars : Nat} {cvars : Nat} {Acolors : Option Addr} {ncolors : Nat} {ccolors : Nat} {Awish : Option Addr} {nwish : Nat} {cwish : Nat} (f0 : InI x.parent) (f1 : Sl w S Avars nvars cvars x.vars) (f2 : Sl w S Acolors ncolors ccolors x.colors) (f3 : Sl w S Awish nwish cwish x.wish) : Rep.is w S x [.int .i64 x.parent, .slice Avars nvars cvars, .slice Acolors ncolors ccolors, .slice Awish nwish cwish] := by
  exact ⟨_, _, rfl, ⟨rfl, f0⟩, ⟨_, _, rfl, ⟨_, _, _, rfl, f1⟩, ⟨_, _, rfl, ⟨_, _, _, rfl, f2⟩, ⟨_, _, _, rfl, f3⟩⟩⟩⟩
theorem at_Part {w : World} {S : Nat → Prop} {A : Option Addr} {n c : Nat} {xs : List Part} (h : Sl w S A n c xs) {k : Nat} (hk : k < n) :
    ∃ b off, ∃ x : Part, ∃ Avars : Option Addr, ∃ nvars : Nat, ∃ cvars : Nat, ∃ Acolors : Option Addr, ∃ ncolors : Nat, ∃ ccolors : Nat, ∃ Awish : Option Addr, ∃ nwish : Nat, ∃ cwish : Nat, A = some ⟨b, off, none⟩ ∧ b < w.heap.size ∧ xs[k]? = some x ∧ InI x.parent ∧ Sl w S Avars nvars cvars x.vars ∧ Sl w S Acolors ncolors ccolors x.colors ∧ Sl w S Awish nwish cwish x.wish ∧ w.cell? ⟨b, off + k * 4, none⟩ = some (.int .i64 x.parent) ∧ w.cell? ⟨b, off + k * 4 + 1, none⟩ = some (.slice Avars nvars cvars) ∧ w.cell? ⟨b, off + k * 4 + 2, none⟩ = some (.slice Acolors ncolors ccolors) ∧ w.cell? ⟨b, off + k * 4 + 3, none⟩ = some (.slice Awish nwish cwish) := by
  obtain ⟨b, off, x, us, e, hb, _, hx, hus, hc⟩ := h.at_ hk
  obtain ⟨Avars, nvars, cvars, Acolors, ncolors, ccolors, Awish, nwish, cwish, rfl, g0, g1, g2, g3⟩ := Part.open_ hus
  refine ⟨b, off, x, Avars, nvars, cvars, Acolors, ncolors, ccolors, Awish, nwish, cwish, e, hb, hx, g0, g1, g2, g3, ?_, ?_, ?_, ?_⟩
  · have := hc 0 _ rfl; simpa [Rep.size, Nat.add_assoc] using this
  · have := hc 1 _ rfl; simpa [Rep.size, Nat.add_assoc] using this
  · have := hc 2 _ rfl; simpa [Rep.size, Nat.add_assoc] using this
  · have := hc 3 _ rfl; simpa [Rep.size, Nat.add_assoc] using this

end Go.Proofs.Ytbppamjogdjfkaa
set_option linter.unusedSimpArgs false
set_option linter.unusedVariables false
namespace Go.Proofs.Ytbppamjogdjfkaa
open Go.RowKit Go.ChangeShapes Go.WideShapes Go.ChangeAt
theorem laid_out : laidOutB Try.prog = true := by kernel_rfl
theorem own_knob : ownKnob Try.prog.godebug = none := by kernel_rfl
instance : Wt Machine := Wt.via fun x => (x.regs, x.args, x.ret, x.saved)
instance : Wt Part := Wt.via fun x => (x.parent, x.vars, x.colors, x.wish)
theorem o24_int : Opens Try.prog Int 3 := opens_int (by kernel_rfl)
theorem o24_ints : Opens Try.prog (List Int) 22 := opens_slice (e := 3) (by kernel_rfl) o24_int (by kernel_rfl) (by decide)
theorem o_Machine : Opens Try.prog Machine 24 := fun H enc w fuel cs x h => by
  obtain ⟨⟨a0, a1, a2, a3⟩, hy, hw⟩ := opens_struct (P := Try.prog) (α := Int × List Int × Int × List Int) (t := 24) Try.underlying24
    (fs_cons o24_int rfl (by kernel_rfl) (fs_cons o24_ints rfl (by kernel_rfl) (fs_cons o24_int rfl (by kernel_rfl) (fs_one o24_ints rfl (by kernel_rfl))))) (by kernel_rfl) H enc w fuel cs x h
  exact ⟨⟨a0, a1, a2, a3⟩, hy, hw⟩
theorem o_Part : Opens Try.prog Part 38 := fun H enc w fuel cs x h => by
  obtain ⟨⟨a0, a1, a2, a3⟩, hy, hw⟩ := opens_struct (P := Try.prog) (α := Int × List Int × List Int × List Int) (t := 38) Try.underlying38
    (fs_cons o24_int rfl (by kernel_rfl) (fs_cons o24_ints rfl (by kernel_rfl) (fs_cons o24_ints rfl (by kernel_rfl) (fs_one o24_ints rfl (by kernel_rfl))))) (by kernel_rfl) H enc w fuel cs x h
  exact ⟨⟨a0, a1, a2, a3⟩, hy, hw⟩
theorem o_Parts : Opens Try.prog (List Part) 25 := opens_slice (e := 38) (by kernel_rfl) o_Part (by kernel_rfl) (by decide)
theorem wt24_ints (l : List Int) : l.length + 1 ≤ Wt.wt l := by have := wt_len (fun _ : Int => Nat.le_refl 1) l; show _ ≤ wtL l + 1; omega
theorem Machine.wt_args (m : Machine) : m.args.length + m.saved.length ≤ Wt.wt m := by
  have := wt24_ints m.args
  have := wt24_ints m.saved
  show _ ≤ 1 + (Wt.wt m.args + (1 + Wt.wt m.saved))
  omega
theorem wt_part (p : Part) : p.vars.length + p.colors.length + p.wish.length + 4 ≤ Wt.wt p := by
  have := wt24_ints p.vars; have := wt24_ints p.colors; have := wt24_ints p.wish
  show _ ≤ 1 + (Wt.wt p.vars + (Wt.wt p.colors + Wt.wt p.wish))
  omega
theorem wt_parts (l : List Part) : l.length ≤ Wt.wt l ∧ ∀ p ∈ l, p.vars.length + p.colors.length + p.wish.length ≤ Wt.wt l := by
  have h := wt_len (fun p : Part => by have := wt_part p; omega) l
  refine ⟨by show _ ≤ wtL l + 1; omega, fun p hp => ?_⟩
  have h1 := wt_mem hp
  have h2 := wt_part p
  show _ ≤ wtL l + 1
  omega
/-- An argument that is a slice. -/
theorem Opens.slice_arg {P : Program} {α : Type} [Rep α] [Wt α] {t e : TypeId} (ho : Opens P (List α) t) (ht : P.underlying t = some (.slice e)) {H : Type} {enc : TypeId × Value → H} {w : World} {base : Nat} {v : Value} {d : DataW H} {p : List MemPlace}
    (hv : Value.okWide P w .any base t v) (h : DataW.Trod enc P w 0 (fun _ => true) true t v d p) : ∃ (y : List α) (A : Option Addr) (n c : Nat), v = .slice A n c ∧ Sl w (fun _ => True) A n c y ∧ Wt.wt y ≤ Rows.uptoBulk d := by
  obtain ⟨k, hk⟩ := h
  have hc : v.cells.toList = [v] := by
    unfold Value.okWide at hv
    rw [ht] at hv
    cases v <;> first | rfl | (simp [Cell.okWide, Cell.ok, ht] at hv; done) | (simp only [Cell.okWide, ht] at hv; unfold Cell.ok at hv; simp [ht] at hv)
  rw [hc] at hk
  obtain ⟨y, hy, hw⟩ := ho H enc w k _ _ hk
  obtain ⟨A, n, c, e, hs⟩ := hy
  injection e with e
  exact ⟨y, A, n, c, e, hs, hw⟩
end Go.Proofs.Ytbppamjogdjfkaa
