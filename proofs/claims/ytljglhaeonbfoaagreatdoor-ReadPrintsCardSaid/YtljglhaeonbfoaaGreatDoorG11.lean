/- What an argument of a law reads as; a law's row out of its walk. What an argument of a law reads as, each text and row of it within the reach. What a row lists of package-level variables (five of them): what it gives a walk, and a world for the witness; arguments as data. law04: arguments as data: functions. -/
import Derived.Test.YtljglhaeonbfoaaGreatDoorG0
import Derived.ProofKit
import Derived.OpenShut
import Derived.JoinedCond
import Derived.Carry
import Derived.SizedLaws
import Derived.Test.YtljglhaeonbfoaaGreatDoorG10
import Derived.Test.YtljglhaeonbfoaaGreatDoorG20
import Derived.Stop.LaidErr
import Derived.Deep.DeepHandedRow
import Derived.Deep.DeepWitnessRowRef
import Derived.Lib.LaidTab
set_option linter.unusedSimpArgs false
set_option linter.unusedVariables false
namespace Go.Proofs.YtljglhaeonbfoaaGreatDoor
open Go.RowKit Go.ChangeShapes Go.WideShapes Go.ChangeAt
class Wt (α : Type) where
 wt : α → Nat
instance : Wt Int := ⟨fun _ => 1⟩
instance : Wt Bool := ⟨fun _ => 1⟩
instance : Wt ByteArray := ⟨fun s => s.size + 1⟩
instance {α β : Type} [Wt α] [Wt β] : Wt (α × β) := ⟨fun x => Wt.wt x.1 + Wt.wt x.2⟩
def wtL {α : Type} [Wt α] : List α → Nat
 | [] => 0
 | x :: l => Wt.wt x + wtL l
instance {α : Type} [Wt α] : Wt (List α) := ⟨fun l => wtL l + 1⟩
section
variable {P : Program}
theorem inI_of {n : Int} (h : (Lit.int .i64 n).wf = true) : InI n := by
 have : -9223372036854775808 ≤ n ∧ n ≤ 9223372036854775807 := by simpa [Lit.wf, IntKind.min, IntKind.max, IntKind.signed, IntKind.bits] using h
 exact this
theorem arg_agg {t : TypeId} {w : World} {base : Nat} {v : Value} {fs : Array Field} (ht : P.underlying t = some (.struct fs)) (h : Value.okWide P w .any base t v) : ∃ cs, v = .agg cs ∧ v.cells.toList = cs.toList := by
 unfold Value.okWide at h
 rw [ht] at h
 obtain ⟨cs, rfl, _⟩ := h
 exact ⟨cs, rfl, by simp [Value.cells]⟩
theorem trodAll_stays {H : Type} {enc : TypeId × Value → H} (hl : laidOutB P = true) {W W' : World} (hb : Below W.heap.size W W') : ∀ {ts : List TypeId} {vs : List Value} {ds : List (DataW H)} {ps : List MemPlace},
  ts.all (fun t => P.readableRec t && decide (t < P.types.size)) = true → DataW.TrodAll enc P W 0 (fun _ => true) true ts vs ds ps → (∀ x ∈ ps, x.block < W.heap.size) → ∀ sp : Nat → Bool, (∀ p ∈ ps, sp p.block = true) → DataW.TrodAll enc P W' 0 sp true ts vs ds ps
 | [], [], [], ps, _, h, _, _, _ => h
 | t :: ts, v :: vs, d :: ds, ps, hr, h, hlt, sp, hsp => by
  obtain ⟨p, q, h0, h1, rfl⟩ := h
  simp only [List.all_cons, Bool.and_eq_true, decide_eq_true_eq] at hr
  exact ⟨p, q, WideElems.Trod_stays hl hr.1.1 hr.1.2 h0 (fun x hx => hb.same (hlt x (List.mem_append_left _ hx))) (fun x hx => hsp x (List.mem_append_left _ hx)),
   trodAll_stays hl hb hr.2 h1 (fun x hx => hlt x (List.mem_append_right _ hx)) sp (fun x hx => hsp x (List.mem_append_right _ hx)), rfl⟩
theorem post_law {H : Type} {enc : TypeId × Value → H} {f : Func} {s : ChangeSpec} {apart fresh handsOn again : Bool} {W W' : World} {args : Array Value} {ds gs : List (DataW H)} {before : List MemPlace} {tb : TypeId}
  (hl : laidOutB P = true) (hr : f.params.toList.all (fun t => P.readableRec t && decide (t < P.types.size)) = true) (htb : f.resultTypes = #[tb]) (hbool : P.underlying tb = some .bool) (hvars : s.vars = [])
  (hW : DataW.Whole enc P f.params.toList s.vars apart W args.toList ds gs before) (hres : (s.fn H (ds ++ gs)).results = [.lit (.bool true)]) (hargs : (s.fn H (ds ++ gs)).args = ds) (hvs : (s.fn H (ds ++ gs)).vars = []) (hb : Below W.heap.size W W') :
  s.post enc P f apart fresh handsOn again W args (.bool true) W' := by
 have hlt : ∀ p ∈ before, p.block < W.heap.size := fun p hp => hW.lt p hp
 have hold : ∀ p ∈ before, (fun b => decide (b < W.heap.size)) p.block = true := fun p hp => by simpa using hlt p hp
 have hW0 := hW
 obtain ⟨p, q, hA, hV, hpq, hz, hn⟩ := hW
 rw [hvars] at hV
 obtain ⟨rfl, rfl⟩ := trodVars_none hV
 rw [List.append_nil] at hpq
 subst hpq
 have hst : ∀ sp : Nat → Bool, (∀ p ∈ before, sp p.block = true) → DataW.TrodAll enc P W' 0 sp true f.params.toList args.toList (s.fn H (ds ++ [])).args before := fun sp hsp => by
  rw [hargs]; exact trodAll_stays hl hb hr hA hlt sp hsp
 have hres' : ∀ (b : Nat) (sp : Nat → Bool) (hd : Bool), DataW.TrodAll enc P W' b sp hd f.resultTypes.toList ((Value.bool true).resultList f.resultTypes.size) (s.fn H (ds ++ [])).results [] := fun b sp hd => by
  rw [hres, htb]; exact trodAll_cons_mk (shut_bool hbool _) trodAll_mk0
 have hv0 : ∀ sp : Nat → Bool, DataW.TrodVars enc P W' sp s.vars (s.fn H (ds ++ [])).vars [] := fun sp => by rw [hvs, hvars]; rfl
 refine ⟨ds, [], before, [], before, [], hW0, hres' _ _ _, hst _ hold, hv0 _, World.keptBut_mono (fun p hp => ⟨hp, Or.inr (by simpa using hp)⟩) (hb.frame (· ∈ before)), fun _ => ?_⟩
 refine ⟨?_, _, _, ([] ++ before) ++ [], ⟨[] ++ before, [], trodAll_append (hst _ (fun _ _ => rfl)) (hres' _ _ _), hv0 _, rfl, ?_, ?_⟩, ?_⟩
 ·exact ok_one htb rfl (okWide_bool_mk hbool _)
 ·intro b off hp
  have hin : MemPlace.cell b off ∈ before := by simpa using hp
  rw [hb.frozen (hlt _ hin)]
  exact hz b off (by simpa using hin)
 ·intro ha
  have := hn ha
  simpa using this
 ·intro p hp _
  simpa using hp
end
end Go.Proofs.YtljglhaeonbfoaaGreatDoor
namespace Go.Proofs.YtljglhaeonbfoaaGreatDoor
open Go.RowKit Go.ChangeShapes Go.WideShapes Go.ChangeAt
class Sm (α : Type) where
 sm : Nat → α → Prop
instance : Sm Int := ⟨fun _ _ => True⟩
instance : Sm Bool := ⟨fun _ _ => True⟩
instance : Sm ByteArray := ⟨fun M s => s.size ≤ M⟩
instance {α β : Type} [Sm α] [Sm β] : Sm (α × β) := ⟨fun M x => Sm.sm M x.1 ∧ Sm.sm M x.2⟩
instance {α : Type} [Sm α] : Sm (List α) := ⟨fun M l => l.length ≤ M ∧ ∀ x ∈ l, Sm.sm M x⟩
abbrev Sm.via {α β : Type} [Sm β] (f : α → β) : Sm α := ⟨fun M x => Sm.sm M (f x)⟩
def LeAll (M : Nat) (l : List Nat) : Prop := ∀ n ∈ l, n ≤ M
theorem LeAll.left {M : Nat} {l m : List Nat} (h : LeAll M (l ++ m)) : LeAll M l := fun n hn => h n (List.mem_append_left _ hn)
theorem LeAll.right {M : Nat} {l m : List Nat} (h : LeAll M (l ++ m)) : LeAll M m := fun n hn => h n (List.mem_append_right _ hn)
section
variable {P : Program}
def OpensM (P : Program) (α : Type) [Rep α] [Sm α] (t : TypeId) : Prop :=
 ∀ (M : Nat) (H : Type) (enc : TypeId × Value → H) (w : World) (fuel : Nat) (cs : List Value) (x : DataW H × List MemPlace), DataW.trod enc P w 0 (fun _ => true) true fuel t cs = some x →
  LeAll M (x.1.weights P t) → ∃ y : α, Rep.is w (fun _ => True) y cs ∧ Sm.sm M y
theorem opensM_int {t : TypeId} (ht : P.underlying t = some (.int .i64)) : OpensM P Int t := fun M H enc w fuel cs x h _ => by
 obtain ⟨n, rfl, rfl, hw⟩ := DataW.trod_int ht h
 exact ⟨n, ⟨rfl, inI_of hw⟩, trivial⟩
def OpensMFs (P : Program) (o : Nat) (fs : List Field) (α : Type) [Rep α] [Sm α] : Prop :=
 ∀ (M : Nat) (H : Type) (enc : TypeId × Value → H) (w : World) (fuel : Nat) (cs : List Value) (xs : List (DataW H × List MemPlace)), xs.length = fs.length →
  (∀ (i : Nat) (f : Field), fs[i]? = some f → DataW.trod enc P w 0 (fun _ => true) true fuel f.type ((cs.drop f.offset).take (P.cellsOf f.type)) = xs[i]?) → cs.length = o + Rep.size α →
  LeAll M (DataW.weightsEach P (fs.map (·.type)) (xs.map (·.1))) → ∃ y : α, Rep.is w (fun _ => True) y (cs.drop o) ∧ Sm.sm M y
theorem fsM_one {α : Type} [Rep α] [Sm α] {o : Nat} {f : Field} (h : OpensM P α f.type) (ho : f.offset = o) (hc : P.cellsOf f.type = Rep.size α) : OpensMFs P o [f] α := fun M H enc w fuel cs xs hl hx hcs hle => by
 obtain ⟨x, rfl⟩ : ∃ x, xs = [x] := by
  match xs, hl with
  | [x], _ => exact ⟨x, rfl⟩
 have h0 := hx 0 f rfl
 obtain ⟨y, hy, hw⟩ := h M H enc w fuel _ x h0 (by simp only [List.map_cons, List.map_nil, DataW.weightsEach] at hle; exact hle.left)
 rw [ho, hc, List.take_of_length_le (by rw [List.length_drop]; omega)] at hy
 exact ⟨y, hy, hw⟩
theorem fsM_cons {α β : Type} [Rep α] [Sm α] [Rep β] [Sm β] {o : Nat} {f : Field} {fs : List Field} (h : OpensM P α f.type) (ho : f.offset = o) (hc : P.cellsOf f.type = Rep.size α) (hr : OpensMFs P (o + Rep.size α) fs β) : OpensMFs P o (f :: fs) (α × β) :=
 fun M H enc w fuel cs xs hl hx hcs hle => by
 obtain ⟨x, ys, rfl⟩ : ∃ x ys, xs = x :: ys := by
  match xs, hl with
  | x :: ys, _ => exact ⟨x, ys, rfl⟩
 have h0 := hx 0 f rfl
 simp only [List.map_cons, DataW.weightsEach] at hle
 obtain ⟨y, hy, hw⟩ := h M H enc w fuel _ x h0 hle.left
 obtain ⟨z, hz, hw'⟩ := hr M H enc w fuel cs ys (by simpa using hl) (fun i g hg => by have := hx (i + 1) g (by simpa using hg); simpa using this) (by rw [hcs]; simp [Rep.size]; omega) hle.right
 rw [ho, hc] at hy
 refine ⟨(y, z), ⟨_, _, ?_, hy, hz⟩, hw, hw'⟩
 rw [← List.drop_drop]
 exact (List.take_append_drop _ _).symm
theorem opensM_struct {α : Type} [Rep α] [Sm α] {t : TypeId} {fs : Array Field} (ht : P.underlying t = some (.struct fs)) (hf : OpensMFs P 0 fs.toList α) (hc : P.cellsOf t = Rep.size α) : OpensM P α t := fun M H enc w fuel cs x h hle => by
 obtain ⟨xs, n, rfl, rfl, hl, hxl, hx⟩ := DataW.trod_struct ht h
 simp only [DataW.weights, ht] at hle
 obtain ⟨y, hy, hw⟩ := hf M H enc w n cs xs (by simpa using hxl) (fun i f hi => hx i f (by simpa using hi)) (by rw [hl, hc, Nat.zero_add]) hle
 exact ⟨y, by simpa using hy, hw⟩
theorem weightsAll_at {H : Type} {e : TypeId} {M : Nat} : ∀ {l : List (DataW H × List MemPlace)}, LeAll M (DataW.weightsAll P e (l.map (·.1))) → ∀ (i : Nat) z, l[i]? = some z → LeAll M (z.1.weights P e)
 | [], _, i, z, h => by simp at h
 | x :: l, hl, 0, z, h => by
  simp only [List.map_cons, DataW.weightsAll] at hl
  simp only [List.getElem?_cons_zero, Option.some.injEq] at h
  subst h; exact hl.left
 | x :: l, hl, i + 1, z, h => by
  simp only [List.map_cons, DataW.weightsAll] at hl
  exact weightsAll_at hl.right i z (by simpa using h)
theorem opensM_slice {α : Type} [Rep α] [Sm α] {t e : TypeId} (ht : P.underlying t = some (.slice e)) (he : OpensM P α e) (hc : P.cellsOf e = Rep.size α) (hs : 0 < Rep.size α) (hby : 0 < P.bytesOf e) : OpensM P (List α) t := fun M H enc w fuel cs x h hle => by
 rcases DataW.trod_slice ht h with ⟨rfl, rfl⟩ | ⟨a, len, cap, elems, rest, n, _, rfl, rfl, _, hlc, hm, hlen, hel, _, _⟩
 ·exact ⟨[], ⟨none, 0, 0, rfl, Sl.nil⟩, Nat.zero_le _, fun _ h => by cases h⟩
 ·simp only [DataW.weights, ht] at hle
  have hlen2 : len ≤ M := by
   have := hle _ (List.mem_cons_self ..)
   rw [List.length_map, List.length_map, hlen] at this
   have h1 : len + rest.length ≤ (len + rest.length) * P.bytesOf e := Nat.le_mul_of_pos_right _ hby
   omega
  have hall := (show LeAll M (DataW.weightsAll P e (elems.map (·.1))) from fun n hn => hle n (List.mem_cons_of_mem _ (List.mem_append_left _ hn)))
  have key : ∀ i, i < len → ∃ y : α, (∃ us, w.cells? 0 (a.add (i * Rep.size α)) (Rep.size α) = some us ∧ Rep.is w (fun _ => True) y us) ∧ Sm.sm M y := by
   intro i hi
   have h1 := hel i hi
   rw [hc] at h1
   have hz : elems[i]? = some elems[i] := List.getElem?_eq_getElem (by omega)
   rw [hz, Option.bind_eq_some_iff] at h1
   obtain ⟨us, hus, hy⟩ := h1
   obtain ⟨y, hy1, hy2⟩ := he M H enc w n us _ hy (weightsAll_at hall i _ hz)
   exact ⟨y, ⟨us, hus, hy1⟩, hy2⟩
  have lst : ∀ k, k ≤ len → ∃ ys : List α, ys.length = k ∧ (∀ i y, ys[i]? = some y → ∃ us, w.cells? 0 (a.add (i * Rep.size α)) (Rep.size α) = some us ∧ Rep.is w (fun _ => True) y us) ∧ ∀ y ∈ ys, Sm.sm M y := by
   intro k
   induction k with
   | zero => intro _; exact ⟨[], rfl, fun i y h => by simp at h, fun _ h => by cases h⟩
   | succ k ih =>
    intro hk
    obtain ⟨ys, h1, h2, h3⟩ := ih (by omega)
    obtain ⟨y, hy1, hy2⟩ := key k (by omega)
    refine ⟨ys ++ [y], by simp [h1], fun i z hz => ?_, fun z hz => ?_⟩
    ·by_cases hi : i < k
     ·rw [List.getElem?_append_left (by omega)] at hz; exact h2 i z hz
     ·have : i = k := by have := (List.getElem?_eq_some_iff.1 hz).1; simp [h1] at this; omega
      subst this
      rw [List.getElem?_append_right (by omega), h1] at hz
      simp at hz; subst hz; exact hy1
    ·rcases List.mem_append.1 hz with hz | hz
     ·exact h3 z hz
     ·rw [List.mem_singleton] at hz; rw [hz]; exact hy2
  obtain ⟨ys, h1, h2, h3⟩ := lst len (Nat.le_refl _)
  refine ⟨ys, ⟨_, _, _, rfl, h1, hlc, hm, fun h => (by cases h), fun hn => ?_⟩, by rw [h1]; exact hlen2, h3⟩
  obtain ⟨b, off, spot⟩ := a
  have cellAt : ∀ (i : Nat) (us : List Value), w.cells? 0 ((⟨b, off, spot⟩ : Addr).add (i * Rep.size α)) (Rep.size α) = some us → ∀ j u, us[j]? = some u → w.cell? (((⟨b, off, spot⟩ : Addr).add (i * Rep.size α)).add j) = some u := by
   intro i us hus j u hj
   obtain ⟨hl, hcc⟩ := World.cells?_some hus
   have hjl := (List.getElem?_eq_some_iff.1 hj).1
   first | exact (hcc.2 j (by omega)).trans hj | exact (hcc j (by omega)).trans hj | (have := hcc.2 j (by omega); rw [this]; exact hj)
  obtain ⟨us0, hus0, hy0⟩ := h2 0 ys[0] (List.getElem?_eq_getElem (by omega))
  have hl0 := Rep.len hy0
  have hc0 := cellAt 0 us0 hus0 0 us0[0] (List.getElem?_eq_getElem (by omega))
  have hspot : spot = none := by simpa [Addr.add] using World.cell?_spot hc0
  subst hspot
  have hb : b < w.heap.size := by
   have := World.cells?_block hus0 hs
   simpa [Addr.add] using this
  refine ⟨b, off, rfl, hb, trivial, fun i y hi => ?_⟩
  obtain ⟨us, hus, hy⟩ := h2 i y hi
  refine ⟨us, hy, fun j u hj => ?_⟩
  have := cellAt i us hus j u hj
  have e : ((⟨b, off, none⟩ : Addr).add (i * Rep.size α)).add j = ⟨b, off + (i * Rep.size α + j), none⟩ := by
   unfold Addr.add
   split <;> split <;> simp_all <;> omega
  rw [e] at this
  exact this
end
end Go.Proofs.YtljglhaeonbfoaaGreatDoor
namespace Go.Proofs.YtljglhaeonbfoaaGreatDoor
open Go.ChangeShapes Go.WideShapes Go.ChangeAt Go.RowKit
theorem laid_out : laidOutB Tryz.prog = true := by kernel_rfl
theorem own_knob : ownKnob Tryz.prog.godebug = none := by kernel_rfl
theorem gES : Tryz.prog.globalNamed "strconv.ErrSyntax" = some 2 := by kernel_rfl
theorem gER : Tryz.prog.globalNamed "strconv.ErrRange" = some 3 := by kernel_rfl
theorem gEST : (Tryz.prog.globals[2]?).map (·.type) = some 63 := by kernel_rfl
theorem gERT : (Tryz.prog.globals[3]?).map (·.type) = some 63 := by kernel_rfl
theorem cellsES : Tryz.prog.cellsOf 239 = 1 := by kernel_rfl
theorem cells_str : Tryz.prog.cellsOf 9 = 1 := by kernel_rfl
theorem star_err : "*" ++ "errors.errorString" = "*errors.errorString" := by decide
theorem row_err (u : TypeId) (h : Tryz.prog.typeName? 3 u = some "*errors.errorString") : u = 237 :=
 typeName_ptr_named (nm := "errors.errorString") (by rw [star_err]; kernel_rfl) (by kernel_rfl) (by decide) u (by rw [star_err]; exact h)
theorem sentinel_cell {n : String} {text : List UInt8} {r : List (String × DataW Unit)} {W : World} {g : Nat} (h : laidMet Tryz.prog ((n, .iface "*errors.errorString" (.ptr (.agg [.lit (.string text)]))) :: r) W)
  (hg : Tryz.prog.globalNamed n = some g) (ht : (Tryz.prog.globals[g]?).map (·.type) = some 63) : ∃ te pe, W.cell? ⟨g, 0, none⟩ = some (.iface te pe) := by
 obtain ⟨a0, s0, hv0, _⟩ := laid_sentinel h hg ht Tryz.underlying63 row_err Tryz.underlying237 Tryz.underlying239 rfl rfl Tryz.underlying9 cellsES cells_str
 exact ⟨_, _, by have h0 := World.var?_cell hg hv0 0; simpa using h0⟩
theorem last_global : (((begin Tryz.prog (fun _ _ => 0) default).world.heap[5]?).bind Obj.row?).isSome = true := by kernel_rfl
theorem globals_size : Tryz.prog.globals.size = 6 := by kernel_rfl
theorem shaped_size {W : World} (h : W.ShapedOpen Tryz.prog) : 6 ≤ W.heap.size := by
 obtain ⟨⟨z, t⟩, hx⟩ := Option.isSome_iff_exists.1 last_global
 obtain ⟨cs, hc, _⟩ := h.1 5 z t (by rw [globals_size]; decide) hx
 have := (Array.getElem?_eq_some_iff.1 hc).1
 omega
theorem vars_of {W : World} (h : laidMetH Tryz.prog Rows.readPrintsRow.laid W) (hs : W.ShapedOpen Tryz.prog) : Vars W := by
 have h0 : laidMet Tryz.prog Rows.readPrintsRow.laid W := h
 have h3 := h0.tail.tail.tail
 exact ⟨sentinel_cell h3.tail gES gEST, sentinel_cell h3 gER gERT, shaped_size hs⟩
theorem p10_eq : (Rows.laid_internal_strconv_uint64pow10 : DataW Unit) = Lib.tabData .u64 Lib.pow10Tab := by kernel_rfl
theorem gP10T : (Tryz.prog.globals[0]?).map (·.type) = some 217 := by kernel_rfl
theorem varsP_of {W : World} (h : laidMetH Tryz.prog Rows.readPrintsRow.laid W) (hs : W.ShapedOpen Tryz.prog) : VarsP W := by
 have h0 : laidMet Tryz.prog Rows.readPrintsRow.laid W := h
 have h2 := h0.tail.tail
 refine ⟨vars_of h hs, ?_⟩
 rw [p10_eq] at h2
 exact Lib.tabIs_of_head gP10 gP10T Tryz.underlying217 (k := .u64) (by kernel_rfl) (by kernel_rfl) (by kernel_rfl) h2
noncomputable abbrev low0 : Nat := (World.holding Tryz.prog default ⟨#[], #[], []⟩).heap.size
def pow10L : Array Value := #[.int .u64 1, .int .u64 10, .int .u64 100, .int .u64 1000, .int .u64 10000, .int .u64 100000, .int .u64 1000000, .int .u64 10000000, .int .u64 100000000, .int .u64 1000000000, .int .u64 10000000000, .int .u64 100000000000, .int .u64 1000000000000, .int .u64 10000000000000, .int .u64 100000000000000, .int .u64 1000000000000000, .int .u64 10000000000000000, .int .u64 100000000000000000, .int .u64 1000000000000000000, .int .u64 10000000000000000000]
def tab32L : Array Value := #[0, 1, 28, 2, 29, 14, 24, 3, 30, 22, 20, 15, 25, 17, 4, 8, 31, 27, 13, 23, 21, 19, 16, 7, 26, 12, 18, 6, 11, 5, 10, 9].map (Value.int .u8)
def tab64L : Array Value := #[0, 1, 56, 2, 57, 49, 28, 3, 61, 58, 42, 50, 38, 29, 17, 4, 62, 47, 59, 36, 45, 43, 51, 22, 53, 39, 33, 30, 24, 18, 12, 5, 63, 55, 48, 27, 60, 41, 37, 16, 46, 35, 44, 21, 52, 32, 23, 11, 54, 26, 40, 15, 34, 20, 31, 10, 25, 14, 19, 9, 13, 8, 7, 6].map (Value.int .u8)
noncomputable def laidWorld (os : Os) : World :=
 let w0 := World.holding Tryz.prog os ⟨#[.cells #[.string ⟨#[105, 110, 118, 97, 108, 105, 100, 32, 115, 121, 110, 116, 97, 120]⟩] 239, .cells #[.string ⟨#[118, 97, 108, 117, 101, 32, 111, 117, 116, 32, 111, 102, 32, 114, 97, 110, 103, 101]⟩] 239], #[], []⟩
 let put (h : Array Obj) (g : Nat) (cs : Array Value) : Array Obj := h.modify g fun
  | .cells _ t frozen => .cells cs t frozen
  | o => o
 { w0 with heap := put (put (put (put (put w0.heap 2 #[.iface 237 (.pointer (some ⟨low0, 0, none⟩))]) 3 #[.iface 237 (.pointer (some ⟨low0 + 1, 0, none⟩))]) 0 pow10L) 4 tab32L) 5 tab64L }
set_option maxRecDepth 1000000 in
theorem laidWorld_met (os : Os) (args : Array Value) : laidMet Tryz.prog Rows.readPrintsRow.laid ((laidWorld os).forCall (fun _ _ => 0) ⟨#[], args, []⟩).memory :=
 laidMet_of_run' 8 (by kernel_rfl) (by kernel_rfl)
theorem leAll_each {H : Type} {P : Program} {ts us : List TypeId} {ds gs : List (DataW H)} (h : (DataW.weightsEach P (ts ++ us) (ds ++ gs)).all (· ≤ reachBytes) = true) {j : Nat} {t : TypeId} {d : DataW H} (ht : ts[j]? = some t) (hd : ds[j]? = some d) : LeAll reachBytes (d.weights P t) := fun n hn => by
 have h1 : (ts ++ us)[j]? = some t := by rw [List.getElem?_append_left (List.getElem?_eq_some_iff.1 ht).1]; exact ht
 have h2 : (ds ++ gs)[j]? = some d := by rw [List.getElem?_append_left (List.getElem?_eq_some_iff.1 hd).1]; exact hd
 simpa using List.all_eq_true.1 h n (DataW.weights_mem_each h1 h2 n hn)
theorem om_int : OpensM Tryz.prog Int 3 := opensM_int (by kernel_rfl)
theorem om_ints : OpensM Tryz.prog (List Int) 22 := opensM_slice (e := 3) (by kernel_rfl) om_int (by kernel_rfl) (by decide) (of_decide_eq_true (by kernel_rfl))
instance : Sm Machine := Sm.via fun x => (x.regs, x.args, x.ret, x.saved)
theorem OpensM.agg {P : Program} {α : Type} [Rep α] [Sm α] {t : TypeId} {fs : Array Field} (ho : OpensM P α t) (ht : P.underlying t = some (.struct fs)) {M : Nat} {H : Type} {enc : TypeId × Value → H} {w : World} {base : Nat} {v : Value} {d : DataW H} {p : List MemPlace}
  (hv : Value.okWide P w .any base t v) (h : DataW.Trod enc P w 0 (fun _ => true) true t v d p) (hle : LeAll M (d.weights P t)) : ∃ (y : α) (us : List Value), v = .agg us.toArray ∧ Rep.is w (fun _ => True) y us ∧ Sm.sm M y := by
 obtain ⟨n, hn⟩ := h
 obtain ⟨y, hy, hs⟩ := ho M H enc w n _ _ hn hle
 obtain ⟨cs, rfl, hc⟩ := arg_agg ht hv
 rw [hc] at hy
 exact ⟨y, cs.toList, by simp, hy, hs⟩
end Go.Proofs.YtljglhaeonbfoaaGreatDoor
namespace Go.Proofs.YtljglhaeonbfoaaGreatDoor
open Go.ChangeShapes Go.WideShapes Go.ChangeAt Go.RowKit
instance : Sm Ins := Sm.via fun x => (x.op, x.dst, x.a, x.b, x.imm, x.callee, x.args, x.many)
instance : Sm Term := Sm.via fun x => (x.kind, x.a, x.to0, x.to1)
instance : Sm Block := Sm.via fun x => (x.ins, x.term)
instance : Sm Fnc := Sm.via fun x => (x.params, x.blocks)
theorem opensM_arr2 {P : Program} {t e : TypeId} (ht : P.underlying t = some (.array 2 e)) (he : P.underlying e = some (.int .i64)) (hc : P.cellsOf t = 2) (hce : P.cellsOf e = 1) : OpensM P (Int × Int) t := fun M H enc w fuel cs x h _ => by
 cases fuel with
 | zero => simp [DataW.trod] at h
 | succ n =>
  unfold DataW.trod at h
  rw [ht] at h
  simp only [hc, hce] at h
  split at h
  ·rename_i hl
   match cs, hl with
   | [c0, c1], _ =>
    simp only [List.range, List.range.loop, Option.map_eq_some_iff] at h
    obtain ⟨xs, hxs, rfl⟩ := h
    simp only [List.mapM_cons, List.mapM_nil, Option.bind_eq_bind, Option.bind_eq_some_iff, Option.pure_def, Option.some.injEq] at hxs
    obtain ⟨a, ha, r, ⟨b, hb, r', hr', rfl⟩, rfl⟩ := hxs
    subst hr'
    simp at ha hb
    obtain ⟨m0, e0, rfl, hw0⟩ := DataW.trod_int he ha
    obtain ⟨m1, e1, rfl, hw1⟩ := DataW.trod_int he hb
    injection e0 with e0 _; injection e1 with e1 _
    subst e0 e1
    exact ⟨(m0, m1), ⟨[.int .i64 m0], [.int .i64 m1], rfl, ⟨rfl, inI_of hw0⟩, ⟨rfl, inI_of hw1⟩⟩, trivial, trivial⟩
  ·cases h
theorem om_Term : OpensM Tryz.prog Term 50 := fun M H enc w fuel cs x h hl => by
 obtain ⟨⟨a0, a1, a2, a3⟩, hy, hw⟩ := opensM_struct (P := Tryz.prog) (α := Int × Int × Int × Int) (t := 50) Tryz.underlying50
  (fsM_cons (opensM_int (by kernel_rfl)) rfl (by kernel_rfl) (fsM_cons om_int rfl (by kernel_rfl) (fsM_one (α := Int × Int) (opensM_arr2 (e := 3) (by kernel_rfl) (by kernel_rfl) (by kernel_rfl) (by kernel_rfl)) rfl (by kernel_rfl)))) (by kernel_rfl) M H enc w fuel cs x h hl
 exact ⟨⟨a0, a1, a2, a3⟩, hy, hw⟩
theorem om_Ins : OpensM Tryz.prog Ins 45 := fun M H enc w fuel cs x h hl => by
 obtain ⟨⟨a0, a1, a2, a3, a4, a5, a6, a7⟩, hy, hw⟩ := opensM_struct (P := Tryz.prog) (α := Int × Int × Int × Int × Int × Int × List Int × Int) (t := 45) Tryz.underlying45
  (fsM_cons (opensM_int (by kernel_rfl)) rfl (by kernel_rfl) (fsM_cons om_int rfl (by kernel_rfl) (fsM_cons om_int rfl (by kernel_rfl) (fsM_cons om_int rfl (by kernel_rfl) (fsM_cons om_int rfl (by kernel_rfl) (fsM_cons om_int rfl (by kernel_rfl) (fsM_cons om_ints rfl (by kernel_rfl) (fsM_one om_int rfl (by kernel_rfl))))))))) (by kernel_rfl) M H enc w fuel cs x h hl
 exact ⟨⟨a0, a1, a2, a3, a4, a5, a6, a7⟩, hy, hw⟩
theorem om_Inss : OpensM Tryz.prog (List Ins) 46 := opensM_slice (e := 45) (by kernel_rfl) om_Ins (by kernel_rfl) (by decide) (of_decide_eq_true (by kernel_rfl))
theorem om_Block : OpensM Tryz.prog Block 52 := fun M H enc w fuel cs x h hl => by
 obtain ⟨⟨a0, a1⟩, hy, hw⟩ := opensM_struct (P := Tryz.prog) (α := List Ins × Term) (t := 52) Tryz.underlying52
  (fsM_cons om_Inss rfl (by kernel_rfl) (fsM_one om_Term rfl (by kernel_rfl))) (by kernel_rfl) M H enc w fuel cs x h hl
 exact ⟨⟨a0, a1⟩, hy, hw⟩
theorem om_Blocks : OpensM Tryz.prog (List Block) 23 := opensM_slice (e := 52) (by kernel_rfl) om_Block (by kernel_rfl) (by decide) (of_decide_eq_true (by kernel_rfl))
theorem om_Func : OpensM Tryz.prog Fnc 25 := fun M H enc w fuel cs x h hl => by
 obtain ⟨⟨a0, a1⟩, hy, hw⟩ := opensM_struct (P := Tryz.prog) (α := List Int × List Block) (t := 25) Tryz.underlying25
  (fsM_cons om_ints rfl (by kernel_rfl) (fsM_one om_Blocks rfl (by kernel_rfl))) (by kernel_rfl) M H enc w fuel cs x h hl
 exact ⟨⟨a0, a1⟩, hy, hw⟩
theorem reach47_4 : reachBytes ≤ 140737488355328 := of_decide_eq_true rfl
theorem sm_func {x : Fnc} (h : Sm.sm reachBytes x) : SmallT 140737488355328 x.blocks ∧ x.params.length ≤ 140737488355328 := by
 obtain ⟨⟨h0, _⟩, h1, h2⟩ := h
 refine ⟨⟨Nat.le_trans h1 reach47_4, fun b hb => ?_⟩, Nat.le_trans h0 reach47_4⟩
 obtain ⟨⟨h3, h4⟩, _⟩ := h2 b hb
 refine ⟨Nat.le_trans h3 reach47_4, fun i hi => ?_⟩
 obtain ⟨_, _, _, _, _, _, ⟨h5, _⟩, _⟩ := h4 i hi
 exact Nat.le_trans h5 reach47_4
end Go.Proofs.YtljglhaeonbfoaaGreatDoor
