/- Lists in memory of the call's own: a literal, their elements, texts. Words of a row of the call's own, joined by blanks. law04: walks: a line's words, as a text. law04: walks: a line is shown. Printed by gen_w4n.py. -/
import Derived.Test.YtljglhaeonbfoaaGreatDoorG2
import Derived.Test.YtljglhaeonbfoaaGreatDoorG17
import Derived.Test.YtljglhaeonbfoaaGreatDoorShelfB
import Derived.Test.YtljglhaeonbfoaaGreatDoorG21
import Derived.Test.YtljglhaeonbfoaaGreatDoorG10
import Derived.Test.YtljglhaeonbfoaaGreatDoorG16
import Derived.Test.YtljglhaeonbfoaaGreatDoorG23
import Derived.Lib.ItoaLen
set_option linter.unusedSimpArgs false
set_option linter.unusedVariables false
namespace Go.Proofs.YtljglhaeonbfoaaGreatDoor
open Go.RowKit
theorem OwnL.at_own {α : Type} [Rep α] {w : World} {base : Nat} {T : TypeId} {S : Nat → Prop} {A : Option Addr} {n c : Nat} {xs : List α} (h : OwnL w base T S (.slice A n c) xs) {k : Nat} (hk : k < n) :
  ∃ g x us, A = some ⟨g, 0, none⟩ ∧ base ≤ g ∧ g < w.heap.size ∧ ¬ S g ∧ xs[k]? = some x ∧ Rep.is w S x us ∧ ∀ j u, us[j]? = some u → w.cell? ⟨g, k * Rep.size α + j, none⟩ = some u := by
 obtain ⟨vals, ⟨h1, h⟩, hr, hap⟩ := h
 rcases h with ⟨e, h0⟩ | ⟨g, cap, cur, e, hg, hh, hnc, hcm, hsz, htake⟩
 ·injection e with e1 e2 e3
  omega
 ·injection e with e1 e2 e3
  subst e1 e2 e3
  have hgl : g < w.heap.size := (Array.getElem?_eq_some_iff.1 hh).1
  obtain ⟨us, hus, hc⟩ := hr.at_ (List.getElem?_eq_getElem hk)
  refine ⟨g, xs[k], us, rfl, hg, hgl, hap g rfl, List.getElem?_eq_getElem hk, hus, fun j u hj => ?_⟩
  rw [cell_of_row w g _ cur T (0, 0) hh]
  have := hc j u hj
  rw [← htake, List.getElem?_take] at this
  split at this
  ·simpa using this
  ·cases this
theorem OwnL.texts {w : World} {base : Nat} {T : TypeId} {S : Nat → Prop} {A : Option Addr} {n c : Nat} {xs : List ByteArray} (h : OwnL w base T S (.slice A n c) xs) (hne : xs ≠ []) : ∃ g, A = some ⟨g, 0, none⟩ ∧ g < w.heap.size ∧ xs.length = n ∧ n ≤ c ∧ ∀ (j : Nat) (x : ByteArray), xs[j]? = some x → w.cell? ⟨g, 0 + j, none⟩ = some (.string x) := by
 have hs := h.sl (S' := fun _ => True) fun _ _ _ => trivial
 have hn : 0 < n := by
  rw [← hs.len]
  cases xs with
  | nil => exact absurd rfl hne
  | cons x l => simp
 obtain ⟨g, x, us, e, _, hg, _⟩ := h.at_own hn
 refine ⟨g, e, hg, hs.len, hs.2.1, fun j x hj => ?_⟩
 have hjn : j < n := by rw [← hs.len]; exact (List.getElem?_eq_some_iff.1 hj).1
 obtain ⟨g2, y, us, e2, _, _, _, hy, hus, hc⟩ := h.at_own hjn
 rw [e] at e2
 injection e2 with e2
 injection e2 with e2
 subst e2
 rw [hj] at hy
 injection hy with hy
 subst hy
 obtain ⟨rfl, _⟩ := hus
 have := hc 0 _ rfl
 simpa [Rep.size] using this
end Go.Proofs.YtljglhaeonbfoaaGreatDoor
namespace Go.Proofs.YtljglhaeonbfoaaGreatDoor
open Go.RowKit
theorem tailX_szm (m : Nat) : ∀ l : List ByteArray, (∀ x ∈ l, x.size ≤ m) → (tailX l).size ≤ (m + 1) * l.length
 | [], _ => by simp [tailX]
 | x :: l, h => by
  have h1 := tailX_szm m l fun y hy => h y (List.mem_cons_of_mem _ hy)
  have h2 := h x (by simp)
  have h3 : (⟨#[32]⟩ : ByteArray).size = 1 := rfl
  show ((⟨#[32]⟩ ++ x) ++ tailX l).size ≤ _
  simp only [ByteArray.size_append, h3, List.length_cons, Nat.mul_add, Nat.mul_one]
  omega
theorem joinX_szm (m : Nat) (l : List ByteArray) (h : ∀ x ∈ l, x.size ≤ m) : (joinX l).size ≤ (m + 1) * l.length := by
 cases l with
 | nil => simp [joinX]
 | cons x l =>
  have h1 := tailX_szm m l fun y hy => h y (List.mem_cons_of_mem _ hy)
  have h2 := h x (by simp)
  show (x ++ tailX l).size ≤ _
  simp only [ByteArray.size_append, List.length_cons, Nat.mul_add, Nat.mul_one]
  omega
theorem join_joinX (l : List ByteArray) : (⟨(Lib.join (l.map (·.data.toList)) (⟨#[32]⟩ : ByteArray).data.toList).toArray⟩ : ByteArray) = joinX l := by
 apply bytes_ext
 cases l with
 | nil => rfl
 | cons x l =>
  simp only [List.map_cons, Lib.join_cons]
  have key : ∀ l : List ByteArray, Lib.joinTail (⟨#[32]⟩ : ByteArray).data.toList (l.map (·.data.toList)) = (tailX l).data.toList := by
   intro l
   induction l with
   | nil => rfl
   | cons y l ih =>
    have ih' := ih
    unfold Lib.joinTail at ih' ⊢
    simp only [List.map_cons, List.flatten_cons]
    rw [ih']
    simp [tailX]
  show x.data.toList ++ _ = (x ++ tailX l).data.toList
  rw [key]
  simp
theorem joinx_any (w : World) (base : Nat) (T : TypeId) (S : Nat → Prop) (A : Option Addr) (n c : Nat) (xs : List ByteArray) (h : OwnL w base T S (.slice A n c) xs) (hne : xs ≠ []) (hl : xs.length ≤ 1048576) (hz : (joinX xs).size ≤ 140737488355328) : Calls Tryz.prog 71 #[.slice A n c, .string ⟨#[32]⟩] w (RetX (.string (joinX xs)) w) := by
 obtain ⟨g, rfl, hg, hn, hnc, hcells⟩ := h.texts hne
 subst hn
 have e := join_joinX xs
 have hj : (Lib.join (xs.map (·.data.toList)) (⟨#[32]⟩ : ByteArray).data.toList).length ≤ 140737488355328 := by
  have : (joinX xs).size = (Lib.join (xs.map (·.data.toList)) (⟨#[32]⟩ : ByteArray).data.toList).length := by rw [← e]; simp [ByteArray.size]
  omega
 refine (Tryz.strings_Join g 0 c xs ⟨#[32]⟩ w hcells hg (by omega) hnc hj).mono ?_
 rintro e' w' ⟨rfl, hb⟩
 exact ⟨by rw [e], hb.to_ext⟩
end Go.Proofs.YtljglhaeonbfoaaGreatDoor
namespace Go.Proofs.YtljglhaeonbfoaaGreatDoor
open Go.RowKit
inductive Pt4 where
 | int (n : Int)
 | str (s : ByteArray)
 | vars (l : List Int)
def ptW : Pt4 → List ByteArray
 | .int n => [itoaB n]
 | .str s => [s]
 | .vars l => l.map docVar
def allW (ps : List Pt4) : List ByteArray := ps.flatMap ptW
instance : Rep Pt4 where
 size := 1
 is w S x vs := match x with
  | .int n => vs = [.iface 3 (.int .i64 n)] ∧ InI n
  | .str s => vs = [.iface 9 (.string s)] ∧ s.size ≤ 1024
  | .vars l => ∃ A n c, vs = [.iface 22 (.slice A n c)] ∧ Sl w S A n c l ∧ n ≤ 1024
 len {w S x vs} h := by
  cases x with
  | int n => obtain ⟨rfl, _⟩ := h; rfl
  | str s => obtain ⟨rfl, _⟩ := h; rfl
  | vars l => obtain ⟨A, n, c, rfl, _⟩ := h; rfl
 keep {w w' S x vs} h hs hk := by
  cases x with
  | int n => exact h
  | str s => exact h
  | vars l => obtain ⟨A, n, c, e, h1, h2⟩ := h; exact ⟨A, n, c, e, h1.keep hs hk, h2⟩
 more {w S S' x vs} h hS := by
  cases x with
  | int n => exact h
  | str s => exact h
  | vars l => obtain ⟨A, n, c, e, h1, h2⟩ := h; exact ⟨A, n, c, e, h1.more hS, h2⟩
 one {w S x vs} h := by
  cases x with
  | int n => obtain ⟨rfl, _⟩ := h; simp [Value.oneCell']
  | str s => obtain ⟨rfl, _⟩ := h; simp [Value.oneCell']
  | vars l => obtain ⟨A, n, c, rfl, _⟩ := h; simp [Value.oneCell']
theorem zero_str4 : (Tryz.prog.info? 9).map (·.zero) = some (some (.string ⟨#[]⟩)) := by kernel_rfl
theorem info_str4 : (Tryz.prog.info? 9).map (fun i => (i.zero, i.size, i.bytes)) = some (some (.string ⟨#[]⟩), 1, 16) := by kernel_rfl
theorem as_str4 (v : Value) (w : World) : (Instr.typeAssert (.iface 9 v) 20 9 true).run Tryz.prog w = .ok (.tuple #[v, .bool true]) w := by simp [Instr.typeAssert, run_underlying Tryz.underlying9]
theorem as_str4_no (t : TypeId) (ht : t ≠ 9) (v : Value) (w : World) : (Instr.typeAssert (.iface t v) 20 9 true).run Tryz.prog w = .ok (.tuple #[.string ⟨#[]⟩, .bool false]) w := by
 obtain ⟨i, e, z⟩ := Option.map_eq_some_iff.1 zero_str4
 simp [Instr.typeAssert, run_underlying Tryz.underlying9, ht, zeroValue, typeInfo, e, z]
theorem as_ints4 (v : Value) (w : World) : (Instr.typeAssert (.iface 22 v) 20 22 true).run Tryz.prog w = .ok (.tuple #[v, .bool true]) w := by simp [Instr.typeAssert, run_underlying Tryz.underlying22]
theorem itoa4_sz (n : Int) (h : InI n) : (itoaB n).size ≤ 21 := by
 have := Lib.itoa_length_le n h.1 h.2
 unfold itoaB
 show (Lib.itoa n).toArray.size ≤ 21
 simpa using this
set_option maxRecDepth 100000 in
set_option maxHeartbeats 8000000 in
theorem shown_any (w : World) (n : Int) (hn : InI n) (hv : VarsP w) : Calls Tryz.prog 70 #[.int .i64 n] w (RetX (.string (docVar n)) w) := by
 have HIT := hide (itoaP_any n hn w hv)
 have hts := itoa4_sz n hn
 have HD := hide (show docVar n = ⟨#[118]⟩ ++ itoaB n from rfl)
 generalize itoaB n = t at HIT hts HD
 have h1 : (⟨#[118]⟩ : ByteArray).size = 1 := rfl
 have g1 : (⟨#[118]⟩ : ByteArray).size + t.size ≤ 9223372036854775807 := by omega
 clear hv hts h1
 go_enter Tryz.func70, Tryz.ntmps70
 go_wp2_with (first | (go_at_call 33; (with_reducible refine HIT.out.mono ?_); rintro e _ ⟨rfl, u, rfl⟩) | (simp only [run_string_add_sum _ _ _ g1]))
 go_ret
 exact ⟨by rw [HD.out]; rfl, u, rfl⟩
theorem docVar_sz {n : Int} (h : InI n) : (docVar n).size ≤ 22 := by
 have := itoa4_sz n h
 unfold docVar
 rw [ByteArray.size_append]
 have : (⟨#[118]⟩ : ByteArray).size = 1 := rfl
 omega
theorem at_Pt4 {w : World} {S : Nat → Prop} {A : Option Addr} {n c : Nat} {xs : List Pt4} (h : Sl w S A n c xs) {k : Nat} (hk : k < n) :
  ∃ b off, ∃ x : Pt4, ∃ v, A = some ⟨b, off, none⟩ ∧ b < w.heap.size ∧ xs[k]? = some x ∧ Rep.is w S x [v] ∧ w.cell? ⟨b, off + k, none⟩ = some v := by
 obtain ⟨b, off, x, us, e, hb, _, hx, hus, hc⟩ := h.at_ hk
 have hl := Rep.len hus
 obtain ⟨v, rfl⟩ : ∃ v, us = [v] := by
  match us, hl with
  | [v], _ => exact ⟨v, rfl⟩
 refine ⟨b, off, x, v, e, hb, hx, hus, ?_⟩
 have := hc 0 _ rfl
 simpa [Rep.size] using this
theorem allW_take {ps : List Pt4} {k : Nat} {x : Pt4} (h : ps[k]? = some x) : allW (ps.take (k + 1)) = allW (ps.take k) ++ ptW x := by
 unfold allW
 rw [List.take_add_one, h]
 simp
end Go.Proofs.YtljglhaeonbfoaaGreatDoor
namespace Go.Proofs.YtljglhaeonbfoaaGreatDoor
open Go.RowKit
theorem row4_sz {w : World} {S : Nat → Prop} {A : Option Addr} {n c : Nat} {ps : List Pt4} (h : Sl w S A n c ps) : (∀ x ∈ allW ps, x.size ≤ 1024) ∧ (allW ps).length ≤ 1024 * n := by
 have hp : ∀ p ∈ ps, (∀ x ∈ ptW p, x.size ≤ 1024) ∧ (ptW p).length ≤ 1024 := fun p hp => by
  obtain ⟨k, hk, rfl⟩ := List.getElem_of_mem hp
  obtain ⟨b, off, x, v, _, _, hx, hr, _⟩ := at_Pt4 h (k := k) (by rw [← h.len]; exact hk)
  rw [List.getElem?_eq_getElem hk] at hx
  rw [Option.some.inj hx]
  cases x with
  | int n =>
   obtain ⟨_, hi⟩ := hr
   exact ⟨fun y hy => by obtain rfl := List.mem_singleton.1 hy; have := itoa4_sz n hi; omega, by show 1 ≤ 1024; omega⟩
  | str s =>
   obtain ⟨_, hi⟩ := hr
   exact ⟨fun y hy => by obtain rfl := List.mem_singleton.1 hy; exact hi, by show 1 ≤ 1024; omega⟩
  | vars l =>
   obtain ⟨A, n, c, _, hs, hn⟩ := hr
   refine ⟨fun y hy => ?_, by show (l.map docVar).length ≤ 1024; rw [List.length_map, hs.len]; exact hn⟩
   obtain ⟨v, hv, rfl⟩ := List.mem_map.1 hy
   obtain ⟨j, hj, rfl⟩ := List.getElem_of_mem hv
   obtain ⟨_, _, z, us, _, _, _, hz, hus, _⟩ := hs.at_ (k := j) (by rw [← hs.len]; exact hj)
   rw [List.getElem?_eq_getElem hj] at hz
   rw [Option.some.inj hz]
   have := docVar_sz hus.2
   omega
 refine ⟨fun x hx => ?_, ?_⟩
 ·obtain ⟨p, h1, h2⟩ := List.mem_flatMap.1 hx
  exact (hp p h1).1 x h2
 ·rw [← h.len]
  clear h
  unfold allW
  induction ps with
  | nil => simp
  | cons p l ih =>
   have h1 := (hp p (by simp)).2
   have h2 := ih fun q hq => hp q (List.mem_cons_of_mem _ hq)
   rw [List.flatMap_cons, List.length_append, List.length_cons]
   omega
set_option maxRecDepth 100000 in
set_option maxHeartbeats 32000000 in
theorem row4_any (w : World) (S : Nat → Prop) (A : Option Addr) (n c : Nat) (ps : List Pt4) (h : Sl w S A n c ps) (hn : n ≤ 64) (hne : allW ps ≠ []) (hv : VarsP w) :
  Calls Tryz.prog 27 #[.slice A n c] w (RetX (.string (joinX (allW ps) ++ ⟨#[10]⟩)) w) := by
 obtain ⟨i0, hi0, hz, hz1, hz2⟩ := info_parts info_str4
 have HI0 := hide hi0; have HZ := hide hz; have HZ1 := hide hz1; have HZ2 := hide hz2
 clear hi0 hz hz1 hz2
 have HSZ := hide (row4_sz h)
 have HS := hide h; have HV := hide hv; have HL := hide h.len; have HNE := hide hne; have HN := hide hn
 have HG := hide hv.v.sz
 have HPL := hide (fun k => show (allW (ps.take k)).length ≤ 65536 from by
  have h1 := (row4_sz h).2
  have h2 : allW (ps.take k) <+: allW ps := by
   unfold allW
   conv => rhs; rw [← List.take_append_drop k ps]
   rw [List.flatMap_append]
   exact List.prefix_append _ _
  have := h2.length_le
  omega)
 clear h hv hne hn
 go_enter Tryz.func27, Tryz.ntmps27
 go_wp2_with fail
 go_loopw [3, 13] (fun v i wr => ∃ (k : Nat) (Ao : Option Addr) (co : Nat), v = .slice Ao (allW (ps.take k)).length co ∧ i = .int .i64 k ∧ k ≤ n ∧ OwnL wr w.heap.size 9 (fun _ => False) (.slice Ao (allW (ps.take k)).length co) (allW (ps.take k)) ∧ Below w.heap.size w wr) (fun _ i _ => n - (intOf i).toNat)
 case atStart => exact ⟨0, none, 0, rfl, rfl, Nat.zero_le _, OwnL.nil_ _ _ _ _, Below.refl _ _⟩
 case round =>
  obtain ⟨k, Ao, co, rfl, rfl, hk, hown, hbw⟩ := hrel
  have HO := hide hown; have HB := hide hbw
  have hsz : w.heap.size ≤ wr.heap.size := hbw.size
  clear hown hbw
  by_cases hlt : k < n
  ·obtain ⟨b, off, x, v, rfl, hbb, hx, hrx, cw⟩ := at_Pt4 HS.out hlt
   have c0 : wr.cell? ⟨b, off + k, none⟩ = some v := (World.cell?_of_block (HB.out.block b hbb)).trans cw
   have hb : b < wr.heap.size := by omega
   have HTK := hide (allW_take hx)
   have HVW := hide (HV.out.below HB.out HG.out)
   have HPK := hide (HPL.out k)
   have HRX := hide hrx
   clear hx hrx cw
   have hki : (k : Int) < n := by omega
   have hkw : IntKind.i64.wrap ((k : Int) + 1) = (k : Int) + 1 := IntWalk.i64_in _ (by have := HN.out; omega)
   cases x with
   | str s =>
    obtain ⟨e, hss⟩ := HRX.out
    obtain rfl := (List.cons.inj e).1
    clear e
    have HTS := hide (show s.size ≤ maxLen by unfold maxLen; omega)
    obtain ⟨V, hV⟩ : ∃ V, wr = V := ⟨_, rfl⟩
    subst hV
    go_wp2_with (first | (simp only [as_int_no 9 (by decide)]) | (simp only [as_str4]) | (at_builtin; refine wpList_push (α := ByteArray) wr [.string s] 9 rfl (.tmp 29) (.tmp 31) 37 rfl w.heap.size 9 i0 _ 16 Tryz.underlying37 HI0.out HZ.out HZ1.out HZ2.out rfl (by decide) (fun _ => False) (fun _ => False) (.slice Ao (allW (ps.take k)).length co) (allW (ps.take k)) s rfl HO.out wr.heap.size rfl rfl ⟨rfl, HTS.out⟩ (fun _ h => h) (fun _ _ h => h) (fun _ h => h.elim) (by have := HPK.out; omega) (by have := HPK.out; omega) (by omega) ?_; intro v' w' ho1 hgr h5; obtain ⟨Av, cv, hv'⟩ := ho1.form; subst hv'; have HO1 := hide ho1; have HGR := hide hgr; clear ho1 hgr h5))
    have e1 : allW (ps.take (k + 1)) = allW (ps.take k) ++ [s] := HTK.out
    have hlen : (allW (ps.take (k + 1))).length = (allW (ps.take k)).length + 1 := by rw [e1]; simp
    have hq := HO1.out
    rw [← e1] at hq
    have HQ := hide hq
    have HBQ := hide (show Below w.heap.size w w' from (HB.out.alloc (by omega) _).grown HGR.out (by simp; omega) (fun g e => (HO.out.below_ g e).1))
    clear hq e1
    go_roundw
    case rel => exact ⟨k + 1, Av, cv, by rw [hlen], by have := HN.out; go_num, by omega, HQ.out, HBQ.out⟩
    case measure => have := HN.out; simp [intOf]; omega
   | int m =>
    obtain ⟨e, hmi⟩ := HRX.out
    obtain rfl := (List.cons.inj e).1
    clear e
    have HIT := hide (itoaP_any m hmi wr HVW.out)
    have hts := itoa4_sz m hmi
    have HTI := hide (show ptW (.int m) = [itoaB m] from rfl)
    generalize itoaB m = ti at HIT hts HTI
    have HTS := hide (show ti.size ≤ maxLen by unfold maxLen; omega)
    rw [HTI.out] at HTK
    go_wp2_with (first | (simp only [as_int]) | (go_at_call 33; (with_reducible refine HIT.out.mono ?_); rintro e V ⟨rfl, u1, hV⟩; have HBV := hide (show Below wr.heap.size wr V by rw [hV]; exact (Below.of_ext wr u1 (Nat.le_refl _))); clear hV; have HOV := hide (HO.out.keep HBV.out.size (fun _ hf => hf.elim) fun b hb => HBV.out.block b (HO.out.below_ b hb).2); have HBW := hide (HB.out.trans (HBV.out.mono hsz)); have hsv : w.heap.size ≤ V.heap.size := HBW.out.size) | (at_builtin; refine wpList_push (α := ByteArray) V [.string ti] 9 rfl (.tmp 21) (.tmp 24) 37 rfl w.heap.size 9 i0 _ 16 Tryz.underlying37 HI0.out HZ.out HZ1.out HZ2.out rfl (by decide) (fun _ => False) (fun _ => False) (.slice Ao (allW (ps.take k)).length co) (allW (ps.take k)) ti rfl HOV.out V.heap.size rfl rfl ⟨rfl, HTS.out⟩ (fun _ h => h) (fun _ _ h => h) (fun _ h => h.elim) (by have := HPK.out; omega) (by have := HPK.out; omega) (by omega) ?_; intro v' w' ho1 hgr h5; obtain ⟨Av, cv, hv'⟩ := ho1.form; subst hv'; have HO1 := hide ho1; have HGR := hide hgr; clear ho1 hgr h5))
    have e1 : allW (ps.take (k + 1)) = allW (ps.take k) ++ [ti] := HTK.out
    have hlen : (allW (ps.take (k + 1))).length = (allW (ps.take k)).length + 1 := by rw [e1]; simp
    have hq := HO1.out
    rw [← e1] at hq
    have HQ := hide hq
    have HBQ := hide (show Below w.heap.size w w' from (HBW.out.alloc (by omega) _).grown HGR.out (by simp; omega) (fun g e => (HO.out.below_ g e).1))
    clear hq e1
    go_roundw
    case rel => exact ⟨k + 1, Av, cv, by rw [hlen], by have := HN.out; go_num, by omega, HQ.out, HBQ.out⟩
    case measure => have := HN.out; simp [intOf]; omega
   | vars l =>
    obtain ⟨A2, n2, c2, e, hs2, hn2⟩ := HRX.out
    obtain rfl := (List.cons.inj e).1
    clear e
    have HS2 := hide hs2
    have HL2 := hide hs2.len
    have HPT := hide (show ptW (.vars l) = l.map docVar from rfl)
    rw [HPT.out] at HTK
    have HPK1 := hide (show (allW (ps.take k)).length + l.length ≤ 65536 from by have := HPL.out (k + 1); rw [HTK.out, List.length_append, List.length_map] at this; exact this)
    obtain ⟨acc, hacc⟩ : ∃ acc, allW (ps.take k) = acc := ⟨_, rfl⟩
    rw [hacc] at HO HTK HPK1 HPK ⊢
    clear hs2 hacc
    go_wp2_with (first | (simp only [as_int_no 22 (by decide), as_str4_no 22 (by decide)]) | (simp only [as_ints4]))
    go_loopw [3, 38] (fun v i W => ∃ (j : Nat) (Aj : Option Addr) (cj : Nat), v = .slice Aj (acc.length + j) cj ∧ i = .int .i64 j ∧ j ≤ n2 ∧ OwnL W w.heap.size 9 (fun _ => False) (.slice Aj (acc.length + j) cj) (acc ++ (l.take j).map docVar) ∧ Below w.heap.size w W) (fun _ i _ => n2 - (intOf i).toNat)
    case atStart => exact ⟨0, Ao, co, rfl, rfl, Nat.zero_le _, by simpa using HO.out, HB.out⟩
    case round =>
     obtain ⟨j, Aj, cj, rfl, rfl, hj, hown, hbw⟩ := hrel
     have HOJ := hide hown; have HBJ := hide hbw
     have HVJ := hide (HV.out.below hbw HG.out)
     have hsz2 : w.heap.size ≤ wr.heap.size := hbw.size
     have HLJ := hide (show (acc ++ (l.take j).map docVar).length = acc.length + j from by rw [List.length_append, List.length_map, List.length_take]; have := HL2.out; omega)
     clear hown hbw HO HB HVW
     by_cases hlt2 : j < n2
     ·obtain ⟨b2, off2, x, rfl, hb2, hx, hxi, d0⟩ := at_int (HS2.out.belowAll HBJ.out) hlt2
      have hji : (j : Int) < n2 := by omega
      have HSH := hide (shown_any wr x hxi HVJ.out)
      have hts := docVar_sz hxi
      have HTJ := hide (show (l.take (j + 1)).map docVar = (l.take j).map docVar ++ [docVar x] from by rw [List.take_add_one, hx]; simp)
      generalize docVar x = tx at HSH hts HTJ
      have HTS := hide (show tx.size ≤ maxLen by unfold maxLen; omega)
      clear hx hts
      go_wp2_with (first | (go_at_call 70; (with_reducible refine HSH.out.mono ?_); rintro e V ⟨rfl, u1, hV⟩; have HBV := hide (show Below wr.heap.size wr V by rw [hV]; exact (Below.of_ext wr u1 (Nat.le_refl _))); clear hV; have HOV := hide (HOJ.out.keep HBV.out.size (fun _ hf => hf.elim) fun b hb => HBV.out.block b (HOJ.out.below_ b hb).2); have HBW := hide (HBJ.out.trans (HBV.out.mono hsz2)); have hsv : w.heap.size ≤ V.heap.size := HBW.out.size) | (at_builtin; refine wpList_push (α := ByteArray) V [.string tx] 9 rfl (.tmp 42) (.tmp 45) 37 rfl w.heap.size 9 i0 _ 16 Tryz.underlying37 HI0.out HZ.out HZ1.out HZ2.out rfl (by decide) (fun _ => False) (fun _ => False) (.slice Aj (acc.length + j) cj) (acc ++ (l.take j).map docVar) tx rfl HOV.out V.heap.size rfl rfl ⟨rfl, HTS.out⟩ (fun _ h => h) (fun _ _ h => h) (fun _ h => h.elim) (by have := HLJ.out; have := HPK1.out; have := HL2.out; omega) (by have := HLJ.out; have := HPK1.out; have := HL2.out; omega) (by have := HBW.out.size; omega) ?_; intro v' w' ho1 hgr h5; obtain ⟨Av, cv, hv'⟩ := ho1.form; subst hv'; have HO1 := hide ho1; have HGR := hide hgr; clear ho1 hgr h5))
      have e1 : acc ++ (l.take (j + 1)).map docVar = (acc ++ (l.take j).map docVar) ++ [tx] := by rw [HTJ.out, List.append_assoc]
      have hlen : ((acc ++ (l.take j).map docVar) ++ [tx]).length = acc.length + (j + 1) := by rw [List.length_append, HLJ.out]; rfl
      have hq := HO1.out
      rw [hlen, ← e1] at hq
      have HQ := hide hq
      have hlen2 : acc.length + (j + 1) = (acc ++ (l.take j).map docVar).length + 1 := by rw [HLJ.out]; omega
      have HBQ := hide (show Below w.heap.size w w' from (HBW.out.alloc (by omega) _).grown HGR.out (by simp; omega) (fun g e => (HOV.out.below_ g e).1))
      clear hq e1 hlen
      go_roundw
      case rel => exact ⟨j + 1, Av, cv, by rw [show min j l.length = j from by have := HL2.out; omega], by go_num, by omega, HQ.out, HBQ.out⟩
      case measure => have := HN.out; simp [intOf]; omega
     ·have hjn : j = n2 := by omega
      subst hjn
      have hlk : l.take j = l := List.take_of_length_le (by rw [HL2.out]; exact Nat.le_refl _)
      rw [hlk] at HOJ
      have e1 : allW (ps.take (k + 1)) = acc ++ l.map docVar := HTK.out
      have hlen : (allW (ps.take (k + 1))).length = acc.length + j := by rw [e1, List.length_append, List.length_map, HL2.out]
      have hq := HOJ.out
      rw [← e1] at hq
      have HQ := hide hq
      clear hq e1
      have hji : ¬ (j : Int) < j := by omega
      go_wp2_with fail
      go_roundw
      case rel => exact ⟨k + 1, Aj, cj, by rw [hlen], by have := HN.out; go_num, by omega, by rw [hlen]; exact HQ.out, HBJ.out⟩
      case measure => have := HN.out; simp [intOf]; omega
  ·have hkn : k = n := by omega
   subst hkn
   have hlk : ps.take k = ps := List.take_of_length_le (by rw [HL.out]; exact Nat.le_refl _)
   rw [hlk] at HO ⊢
   have hjz := joinX_szm 1024 (allW ps) HSZ.out.1
   have HJ := hide (joinx_any wr _ _ _ Ao _ co _ HO.out HNE.out (by have := HSZ.out.2; have := HN.out; omega) (by have := HSZ.out.2; have := HN.out; omega))
   have HJZ := hide (show (joinX (allW ps)).size ≤ 1099511627776 from by have := HSZ.out.2; have := HN.out; omega)
   clear hjz
   have HR := hide (show Below w.heap.size w wr from HB.out)
   obtain ⟨jt, hjt⟩ : ∃ jt, joinX (allW ps) = jt := ⟨_, rfl⟩
   rw [hjt] at HJ HJZ
   have HJT := hide hjt
   clear hjt
   have h10 : (⟨#[10]⟩ : ByteArray).size = 1 := rfl
   have g1 : jt.size + (⟨#[10]⟩ : ByteArray).size ≤ 9223372036854775807 := by have := HJZ.out; omega
   clear h10
   go_wp2_with (first | (go_at_call 71; (with_reducible refine HJ.out.mono ?_); rintro e _ ⟨rfl, u2, rfl⟩) | (simp only [run_string_add_sum _ _ _ g1]))
   go_ret
   exact ⟨by rw [HJT.out]; rfl, (HR.out.ext HR.out.size u2).to_ext⟩
end Go.Proofs.YtljglhaeonbfoaaGreatDoor
