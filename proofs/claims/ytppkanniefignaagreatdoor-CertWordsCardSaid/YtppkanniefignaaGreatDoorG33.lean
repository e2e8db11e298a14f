/- law28: walks: which of two facts is ahead. law28: walks: a fact is read. Printed by gen_c9.py. law28: walks: an edge's facts are read. -/
import Derived.Test.YtppkanniefignaaGreatDoorB28
import Derived.Test.YtppkanniefignaaGreatDoorG3
import Derived.Test.YtppkanniefignaaGreatDoorG46
import Derived.Test.YtppkanniefignaaGreatDoorG32
import Derived.Test.YtppkanniefignaaGreatDoorG45
import Derived.Test.YtppkanniefignaaGreatDoorG2
set_option linter.unusedSimpArgs false
set_option linter.unusedVariables false
namespace Go.Proofs.YtppkanniefignaaGreatDoor
open Go.RowKit
def orI : List Int → Int
 | [] => 0
 | x :: l => if x ≠ 0 then x else orI l
theorem isNaN28_any (a : Int) (w : World) : Calls Tryz.prog 151 #[.int .i64 a] w (Ret (.bool false) w) := by
 go_enter Tryz.func151, Tryz.ntmps151
 go_wp2; go_ret; exact ⟨by simp, rfl⟩
theorem cmp28_any (a b : Int) (w : World) : Calls Tryz.prog 113 #[.int .i64 a, .int .i64 b] w (Ret (.int .i64 (cmpI a b)) w) := by
 unfold cmpI
 rcases Int.lt_trichotomy a b with h | h | h
 ·have h1 : decide (a < b) = true := by simpa using h
  rw [if_pos h]
  go_enter Tryz.func113, Tryz.ntmps113
  go_wp2_with (first | (go_at_call 151; refine (isNaN28_any _ _).mono ?_; rintro e w' ⟨rfl, rfl⟩))
  go_ret; exact ⟨rfl, rfl⟩
 ·subst h
  rw [if_neg (by omega), if_neg (by omega)]
  go_enter Tryz.func113, Tryz.ntmps113
  go_wp2_with (first | (go_at_call 151; refine (isNaN28_any _ _).mono ?_; rintro e w' ⟨rfl, rfl⟩))
  go_ret; exact ⟨rfl, rfl⟩
 ·have h1 : decide (a < b) = false := by simp; omega
  have h2 : decide (b < a) = true := by simpa using h
  rw [if_neg (by omega), if_pos h]
  go_enter Tryz.func113, Tryz.ntmps113
  go_wp2_with (first | (go_at_call 151; refine (isNaN28_any _ _).mono ?_; rintro e w' ⟨rfl, rfl⟩))
  go_ret; exact ⟨rfl, rfl⟩
theorem or28_any (w : World) (S : Nat → Prop) (A : Option Addr) (n c : Nat) (xs : List Int) (h : Sl w S A n c xs) : Calls Tryz.prog 112 #[.slice A n c] w (RetX (.int .i64 (orI xs)) w) := by
 have hn := h.nle
 have HL := hide h.len
 have HS := hide h
 clear h
 go_enter Tryz.func112, Tryz.ntmps112
 go_wp2_with fail
 go_loopw [8] (fun i wr => ∃ k : Nat, k ≤ n ∧ i = .int .i64 k ∧ orI xs = orI (xs.drop k) ∧ ∃ u, wr = w.ext u) (fun i _ => n - (intOf i).toNat)
 case atStart => exact ⟨0, Nat.zero_le _, rfl, rfl, ext_refl _⟩
 case round =>
  obtain ⟨k, hk, rfl, hr, u, rfl⟩ := hrel
  have HR := hide hr; clear hr
  by_cases hlt : k < n
  ·obtain ⟨b, off, x, rfl, hb, hx, hxi, c0⟩ := at_int (HS.out.ext u) hlt
   have HX := hide (drop_at hx); clear hx
   by_cases hv : x = 0
   ·have hv2 : (x != 0) = false := by simp [hv]
    have HV := hide hv; clear hv
    go_wp2_with fail
    go_roundw
    case rel => exact ⟨k + 1, by omega, by go_num, by rw [HR.out, HX.out]; simp [orI, HV.out], u, rfl⟩
    case measure => simp [intOf]; omega
   ·have hv2 : (x != 0) = true := by simpa using hv
    have HV := hide hv; clear hv
    go_wp2_with fail
    go_ret
    exact RetX.i (by rw [HR.out, HX.out]; simp [orI, HV.out]) (by repeat (first | exact Below.refl _ _ | assumption | refine Below.alloc ?_ (by simp [size_ext]; try omega) _ | refine Below.ext ?_ (by simp [size_ext]; try omega) _ | refine Below.drew ?_ | refine Below.setCell ?_ (by simp [size_ext]; try omega) _))
  ·go_wp2_with fail
   go_ret
   exact RetX.i (by rw [HR.out, drop_end HL.out hlt]; rfl) (by repeat (first | exact Below.refl _ _ | assumption | refine Below.alloc ?_ (by simp [size_ext]; try omega) _ | refine Below.ext ?_ (by simp [size_ext]; try omega) _ | refine Below.drew ?_ | refine Below.setCell ?_ (by simp [size_ext]; try omega) _))
theorem sort28_any (w : World) (v : Int) (s : Bool) (n : Int) : Calls Tryz.prog 111 #[.agg #[.int .i64 v, .bool s, .int .i64 n]] w (RetX (.int .i64 (sortF ⟨v, ⟨s, n⟩⟩)) w) := by
 cases s
 all_goals
  go_enter Tryz.func111, Tryz.ntmps111
  go_wp2_with fail
  go_ret
  exact RetX.i rfl (by repeat (first | exact Below.refl _ _ | assumption | refine Below.alloc ?_ (by simp [size_ext]; try omega) _ | refine Below.ext ?_ (by simp [size_ext]; try omega) _ | refine Below.drew ?_ | refine Below.setCell ?_ (by simp [size_ext]; try omega) _))
abbrev facV (f : Fact) : Value := .agg #[.int .i64 f.var, .bool f.loc.slot, .int .i64 f.loc.n]
set_option maxRecDepth 100000 in
set_option maxHeartbeats 8000000 in
theorem order28_any (w : World) (f g : Fact) (hf : InI f.var ∧ InI f.loc.n) (hg : InI g.var ∧ InI g.loc.n) : Calls Tryz.prog 51 #[facV f, facV g] w (RetX (.int .i64 (ordF f g)) w) := by
 obtain ⟨va, ⟨sa, na⟩⟩ := f
 obtain ⟨vb, ⟨sb, nb⟩⟩ := g
 have ho : ordF ⟨va, ⟨sa, na⟩⟩ ⟨vb, ⟨sb, nb⟩⟩ = orI [cmpI va vb, cmpI (sortF ⟨va, ⟨sa, na⟩⟩) (sortF ⟨vb, ⟨sb, nb⟩⟩), cmpI na nb] := by
  unfold ordF orI orI orI orI
  simp only
  split
  ·rfl
  ·split
   ·rfl
   ·split
    ·rfl
    ·rename_i h; simpa using h
 have hi : ∀ a b, InI (cmpI a b) := fun a b => by unfold cmpI InI; split; omega; split <;> omega
 obtain ⟨c1, hc1⟩ : ∃ c, cmpI va vb = c := ⟨_, rfl⟩
 obtain ⟨s1, hs1⟩ : ∃ c, sortF ⟨va, ⟨sa, na⟩⟩ = c := ⟨_, rfl⟩
 obtain ⟨s2, hs2⟩ : ∃ c, sortF ⟨vb, ⟨sb, nb⟩⟩ = c := ⟨_, rfl⟩
 obtain ⟨c2, hc2⟩ : ∃ c, cmpI s1 s2 = c := ⟨_, rfl⟩
 obtain ⟨c3, hc3⟩ : ∃ c, cmpI na nb = c := ⟨_, rfl⟩
 have HI := hide (show InI c1 ∧ InI c2 ∧ InI c3 from ⟨hc1 ▸ hi _ _, hc2 ▸ hi _ _, hc3 ▸ hi _ _⟩)
 have H1 := hide (fun W => show Calls Tryz.prog 113 #[.int .i64 va, .int .i64 vb] W (Ret (.int .i64 c1) W) from hc1 ▸ cmp28_any va vb W)
 have H2 := hide (fun W => show Calls Tryz.prog 113 #[.int .i64 s1, .int .i64 s2] W (Ret (.int .i64 c2) W) from hc2 ▸ cmp28_any s1 s2 W)
 have H3 := hide (fun W => show Calls Tryz.prog 113 #[.int .i64 na, .int .i64 nb] W (Ret (.int .i64 c3) W) from hc3 ▸ cmp28_any na nb W)
 have H4 := hide (fun W => show Calls Tryz.prog 111 #[.agg #[.int .i64 va, .bool sa, .int .i64 na]] W (RetX (.int .i64 s1) W) from hs1 ▸ sort28_any W va sa na)
 have H5 := hide (fun W => show Calls Tryz.prog 111 #[.agg #[.int .i64 vb, .bool sb, .int .i64 nb]] W (RetX (.int .i64 s2) W) from hs2 ▸ sort28_any W vb sb nb)
 rw [hs1, hs2, hc1, hc2, hc3] at ho
 rw [ho]
 clear ho hi hc1 hc2 hc3 hs1 hs2
 go_enter Tryz.func51, Tryz.ntmps51
 go_wp2_with fail
 obtain ⟨X, hX⟩ : ∃ X, (w.alloc (.cells #[.int .i64 va, .bool sa, .int .i64 na] 42)).alloc (.cells #[.int .i64 vb, .bool sb, .int .i64 nb] 42) = X := ⟨_, rfl⟩
 have HBX := hide (show Below w.heap.size w X by rw [← hX]; exact ((Below.refl _ _).alloc (Nat.le_refl _) _).alloc (by simp) _)
 have hxs : X.heap.size = w.heap.size + 2 := by rw [← hX]; simp
 have r1 : X.heap[w.heap.size]? = some (.cells #[.int .i64 va, .bool sa, .int .i64 na] 42 (0, 0)) := by
  rw [← hX, Below.heap_alloc _ _ _ (by simp)]; exact heap_alloc_new w _
 have r2 : X.heap[w.heap.size + 1]? = some (.cells #[.int .i64 vb, .bool sb, .int .i64 nb] 42 (0, 0)) := by
  have h := heap_alloc_new (w.alloc (.cells #[.int .i64 va, .bool sa, .int .i64 na] 42)) (.cells #[.int .i64 vb, .bool sb, .int .i64 nb] 42 (0, 0))
  rw [← hX]; simpa using h
 obtain ⟨ga, hga⟩ : ∃ g, w.heap.size = g := ⟨_, rfl⟩
 obtain ⟨gb, hgb⟩ : ∃ g, ga + 1 = g := ⟨_, rfl⟩
 rw [hga] at r1 r2
 rw [hgb] at r2
 have la : ga < X.heap.size := by omega
 have lb : gb < X.heap.size := by omega
 have a0 : X.cell? ⟨ga, 0, none⟩ = some (.int .i64 va) := cell_of_row X ga _ _ _ (0, 0) r1
 have a1 : X.cell? ⟨ga, 1, none⟩ = some (.bool sa) := cell_of_row X ga _ _ _ (0, 0) r1
 have a2 : X.cell? ⟨ga, 2, none⟩ = some (.int .i64 na) := cell_of_row X ga _ _ _ (0, 0) r1
 have b0 : X.cell? ⟨gb, 0, none⟩ = some (.int .i64 vb) := cell_of_row X gb _ _ _ (0, 0) r2
 have b1 : X.cell? ⟨gb, 1, none⟩ = some (.bool sb) := cell_of_row X gb _ _ _ (0, 0) r2
 have b2 : X.cell? ⟨gb, 2, none⟩ = some (.int .i64 nb) := cell_of_row X gb _ _ _ (0, 0) r2
 rw [hX]
 try rw [hga]
 try rw [hgb]
 clear hX r1 r2 hxs hga hgb
 refine wp_region_flow_ext [] [19] (by kernel_rfl) rfl (by kernel_rfl) ?_
 repeat (refine flow_known (by kernel_rfl) (fun K hK => ?_); go_simp; (first | (refine hK _ ?_; clear hK K) | (apply Exists.intro; refine ⟨fun _ => ?_, hK _ ?_⟩; (first | (go_at_call 113; with_reducible exact Ret.retX (H1.out _)) | (go_at_call 113; with_reducible exact Ret.retX (H2.out _)) | (go_at_call 113; with_reducible exact Ret.retX (H3.out _)) | (go_at_call 111; with_reducible exact H4.out _) | (go_at_call 111; with_reducible exact H5.out _)); clear hK K)))
 refine flow_keep0 (SlP 3 [c1, c2, c3]) (by kernel_rfl) (SlP.stable_ rfl) ?_ ?_
 ·intro u
  go_simp
  exact ⟨⟨fun _ => True, _, _, rfl, Sl.lit (S := fun _ => True) (us := [.int .i64 c1, .int .i64 c2, .int .i64 c3]) (by simp only [size_ext]) (RepL.ints [c1, c2, c3] (by intro x hx; simp at hx; rcases hx with rfl | rfl | rfl; exact HI.out.1; exact HI.out.2.1; exact HI.out.2.2)) rfl (by decide) (fun _ _ => trivial) trivial⟩, onW_alloc rfl ⟨_, rfl⟩⟩
 refine flow_out [true] (.int .i64 (orI [c1, c2, c3])) (by kernel_rfl) ?_ ?_
 ·intro u
  try simp only [List.nil_append, List.cons_append, useH_f, useH_t, useH_nil]
  rintro _ ⟨S, A, c, rfl, hs⟩
  go_simp
  exact or28_any _ S A 3 c _ hs
 repeat (refine flow_known (by kernel_rfl) (fun K hK => ?_); go_simp; (first | (refine hK _ ?_; clear hK K) | (apply Exists.intro; refine ⟨fun _ => ?_, hK _ ?_⟩; (fail); clear hK K)))
 refine flow_done [true] (by kernel_rfl) ?_
 intro u
 simp only [List.nil_append, List.cons_append, endH_f, endH_t, endH_nil]
 rintro _ -
 go_simp
 go_wp2_with fail
 go_ret
 exact RetX.i rfl (HBX.out.ext HBX.out.size u)
theorem ahead28_any (w : World) (f g : Fact) (hf : InI f.var ∧ InI f.loc.n) (hg : InI g.var ∧ InI g.loc.n) : Calls Tryz.prog 19 #[facV f, facV g] w (RetX (.bool (aheadF f g)) w) := by
 have HO := hide (fun (W : World) => order28_any W f g hf hg)
 obtain ⟨va, ⟨sa, na⟩⟩ := f
 obtain ⟨vb, ⟨sb, nb⟩⟩ := g
 have ha : aheadF ⟨va, ⟨sa, na⟩⟩ ⟨vb, ⟨sb, nb⟩⟩ = decide (ordF ⟨va, ⟨sa, na⟩⟩ ⟨vb, ⟨sb, nb⟩⟩ < 0) := rfl
 rw [ha]
 generalize ordF ⟨va, ⟨sa, na⟩⟩ ⟨vb, ⟨sb, nb⟩⟩ = o at HO ⊢
 clear ha hf hg
 go_enter Tryz.func19, Tryz.ntmps19
 go_wp2_with (go_at_call 51; (with_reducible refine (HO.out _).mono ?_); rintro e _ ⟨rfl, u1, rfl⟩)
 go_ret
 exact RetX.b rfl (by repeat (first | exact Below.refl _ _ | assumption | refine Below.alloc ?_ (by simp [size_ext]; try omega) _ | refine Below.ext ?_ (by simp [size_ext]; try omega) _ | refine Below.drew ?_ | refine Below.setCell ?_ (by simp [size_ext]; try omega) _))
end Go.Proofs.YtppkanniefignaaGreatDoor
namespace Go.Proofs.YtppkanniefignaaGreatDoor
open Go.RowKit Go.Maps
structure FAt (w0 W : World) (R M c nb : Nat) (S : Nat → Prop) (v0 v1 v2 : Value) (s : Cur) : Prop where
 rdr : W.heap[R]? = some (.cells #[.pointer (some ⟨c, 0, none⟩), .map (some nb)] 62 (0, 0))
 row : W.heap[M]? = some (.cells #[v0, v1, v2] 42 (0, 0))
 cur : CurAt W S c s
 only : Only c w0 W
 nm : Names W nb
 o1 : c < R
 o2 : R < M
 o3 : ∀ b, S b → b < R
 o4 : w0.heap.size ≤ R
 o5 : nb < R
 o6 : nb ≠ c
section
variable {w0 W W' : World} {R M c nb : Nat} {S : Nat → Prop} {v0 v1 v2 u0 u1 u2 : Value} {s s' : Cur}
theorem FAt.rl (h : FAt w0 W R M c nb S v0 v1 v2 s) : R < W.heap.size := (Array.getElem?_eq_some_iff.1 h.rdr).1
theorem FAt.ml (h : FAt w0 W R M c nb S v0 v1 v2 s) : M < W.heap.size := (Array.getElem?_eq_some_iff.1 h.row).1
theorem FAt.call (h : FAt w0 W R M c nb S v0 v1 v2 s) (hon : Only c W W') (hat : CurAt W' S c s') : FAt w0 W' R M c nb S v0 v1 v2 s' where
 rdr := (hon.block R h.rl (by have := h.o1; omega)).trans h.rdr
 row := (hon.block M h.ml (by have := h.o1; have := h.o2; omega)).trans h.row
 cur := hat
 only := h.only.trans hon
 nm := h.nm.keep (hon.block nb (by have := h.o5; have := h.rl; omega) h.o6)
 o1 := h.o1
 o2 := h.o2
 o3 := h.o3
 o4 := h.o4
 o5 := h.o5
 o6 := h.o6
theorem FAt.ext (h : FAt w0 W R M c nb S v0 v1 v2 s) (u : Ext) : FAt w0 (W.ext u) R M c nb S v0 v1 v2 s := h.call ((Only.refl c W).ext u) (h.cur.ext u)
theorem FAt.alloc (h : FAt w0 W R M c nb S v0 v1 v2 s) (o : Obj) : FAt w0 (W.alloc o) R M c nb S v0 v1 v2 s := h.call ((Only.refl c W).alloc o) (h.cur.alloc o)
theorem FAt.set (h : FAt w0 W R M c nb S v0 v1 v2 s) {j : Nat} {x : Value} (hr : (#[v0, v1, v2] : Array Value).setIfInBounds j x = #[u0, u1, u2]) : FAt w0 (W.setCell ⟨M, j, none⟩ x) R M c nb S u0 u1 u2 s where
 rdr := (Below.heap_setCell W ⟨M, j, none⟩ x R (by show R ≠ M; have := h.o2; omega)).trans h.rdr
 row := by rw [row_setB h.row, hr]
 cur := h.cur.keep (by simp) (Below.heap_setCell W ⟨M, j, none⟩ x c (by show c ≠ M; have := h.o1; have := h.o2; omega)) fun b hS _ => Below.heap_setCell W ⟨M, j, none⟩ x b (by show b ≠ M; have := h.o3 b hS; have := h.o2; omega)
 only := ⟨h.only.os, h.only.tape, h.only.output, by have := h.only.size; simpa using this, fun b hb hc => (Below.heap_setCell W ⟨M, j, none⟩ x b (by show b ≠ M; have := h.o2; have := h.o4; omega)).trans (h.only.block b hb hc)⟩
 nm := h.nm.setCell (by show nb ≠ M; have := h.o5; have := h.o2; omega) x
 o1 := h.o1
 o2 := h.o2
 o3 := h.o3
 o4 := h.o4
 o5 := h.o5
 o6 := h.o6
theorem FAt.look (h : FAt w0 W R M c nb S v0 v1 v2 s) (pk : ByteArray) (hp : pk.size ≤ maxLen) : (Instr.lookup 59 (.map (some nb)) (.string pk) false).run Tryz.prog W = .ok (nmV? (nameW pk)) W := by
 have h := MapP.get h.nm Tryz.underlying59 (x := pk) hp
 have e : ((nameW pk).map some).getD none = nameW pk := by cases nameW pk <;> rfl
 rw [show (nmE.zero : Option Nm) = none from rfl] at h
 rw [e] at h
 exact h
end
theorem HeldAt.store_X {P : Program} {ops : Array Oper} {F : World → Prop} {o : Oper} {a : Act} {post : Post} {w : World} (hgd : o.guard = none) (ty : TypeId) (x y : Operand) (ho : o.op = .store ty x y) (g : Nat) (cur c' : Array Value) (hx : a.eval x = .pointer (some ⟨g, 0, none⟩)) (hy : a.eval y = .agg c')
  (hc : w.heap[g]? = some (.cells cur ty (0, 0))) (hi : (P.info? ty).map (·.size) = some c'.size) (hs : cur.size = c'.size) (h1 : c'.all (·.oneCell') = true)
  (hK : ∀ w' v, w'.heap[g]? = some (.cells c' ty (0, 0)) → w' = w.setCells g 0 c'.toList → post v w' ∧ F w') : HeldAt P ops F true o a post w := by
 refine HeldAt.of hgd ?_
 have hr := run_storeVar_mid (P := P) w g 0 ty c' (fun j hj => by
  have hj' : j < cur.size := by omega
  refine ⟨?_, ?_⟩
  ·simp [World.cell?, hc, hj']
  ·simp [World.frozen?, hc]) hi h1
 unfold execOp
 simp only [ho, hx, hy, Instr.storeAt, Instr.sureAddr, Sem.run_bind, Sem.run_pure, Result.andThen_ok, hr]
 have hh := heap_setCells_same c'.toList 0 w cur hc
 have he : arrSet cur 0 c'.toList = c' := by
  apply Array.toList_inj.1
  rw [arrSet_list _ _ _ (by simp; omega)]
  simp [hs]
 rw [he] at hh
 obtain ⟨k1, k2⟩ := hK _ undef hh rfl
 refine ⟨?_, k2, fun h => by cases h⟩
 first
  | exact k1
  | exact (hK _ _ hh rfl).1
def NewL (w0 : World) (g : Nat) (w : World) : Prop := extF w0 w ∧ w0.heap.size ≤ g ∧ ∃ cur : Array Value, w.heap[g]? = some (.cells cur 40 (0, 0)) ∧ cur.size = 2
theorem NewL.ext {w0 w : World} {g : Nat} (h : NewL w0 g w) (u : Ext) : NewL w0 g (w.ext u) := by
 obtain ⟨⟨x, hx⟩, h1, cur, h2, h3⟩ := h
 exact ⟨by rw [hx]; exact ext_ext w0 x u, h1, cur, by rw [ext_block w u g (Array.getElem?_eq_some_iff.1 h2).1]; exact h2, h3⟩
def nmVar : Option Nm → Int
 | some (.var n) => n
 | _ => 0
def nmIsVar : Option Nm → Bool
 | some (.var _) => true
 | _ => false
def nmSlot : Option Nm → Bool
 | some (.loc l) => l.slot
 | _ => false
def nmNum : Option Nm → Int
 | some (.loc l) => l.n
 | _ => 0
def nmIsLoc : Option Nm → Bool
 | some (.loc _) => true
 | _ => false
theorem as28_nmvar (x : Option Nm) (W : World) : (Instr.typeAssert (nmV? x) 20 118 true).run Tryz.prog W = .ok (.tuple #[.int .i64 (nmVar x), .bool (nmIsVar x)]) W := by
 cases x with
 | none => exact as28_var_nil W
 | some x => cases x with
  | var n => exact as28_var _ W
  | loc l => exact as28_var_no 40 (by decide) _ W
theorem as28_nmloc (x : Option Nm) (W : World) : (Instr.typeAssert (nmV? x) 20 40 true).run Tryz.prog W = .ok (.tuple #[.agg #[.bool (nmSlot x), .int .i64 (nmNum x)], .bool (nmIsLoc x)]) W := by
 cases x with
 | none => exact as28_loc_nil W
 | some x => cases x with
  | var n => exact as28_loc_no 118 (by decide) _ W
  | loc l => exact as28_loc _ W
theorem nmVar_w (s : ByteArray) : nmVar (nameW s) = varW s := by
 unfold nameW
 by_cases h : varW s ≠ 0
 ·rw [if_pos h]; rfl
 ·rw [if_neg h]
  have h0 : varW s = 0 := by omega
  rw [h0]
  cases placeW s <;> rfl
theorem nmIsVar_w (s : ByteArray) : nmIsVar (nameW s) = (varW s != 0) := by
 unfold nameW
 by_cases h : varW s ≠ 0
 ·rw [if_pos h]; show true = _; simpa using h
 ·rw [if_neg h]
  have h0 : varW s = 0 := by omega
  rw [h0]
  cases placeW s <;> rfl
theorem nmLoc_w (s : ByteArray) : (placeW s).getD ⟨false, 0⟩ = ⟨nmSlot (nameW s), nmNum (nameW s)⟩ ∧ (placeW s).isSome = nmIsLoc (nameW s) := by
 rw [← nameW_loc s]
 cases nameW s with
 | none => exact ⟨rfl, rfl⟩
 | some x => cases x <;> exact ⟨rfl, rfl⟩
theorem nm_in (s : ByteArray) : InI (nmVar (nameW s)) ∧ InI (nmNum (nameW s)) := by
 have h0 : InI 0 := ⟨by decide, by decide⟩
 cases hx : nameW s with
 | none => exact ⟨h0, h0⟩
 | some x =>
  have h2 := (nameW_inv hx).2.in_
  cases x with
  | var n => exact ⟨h2, h0⟩
  | loc l => exact ⟨h0, h2⟩
theorem peek_sz {w : World} {S : Nat → Prop} {c : Nat} {s : Cur} (h : CurAt w S c s) : (peekC s).size ≤ maxLen := by
 obtain ⟨A, n, k, _, _, _, _, _, hs⟩ := h.at_
 have h0 : (ByteArray.empty).size ≤ maxLen := by unfold maxLen; decide
 unfold peekC
 split
 ·rename_i x hx
  split
  ·unfold headC at hx
   split at hx
   ·have hl := hs.len
    rw [List.length_map] at hl
    cases hw : s.ws with
    | nil => rw [hw] at hx; cases hx
    | cons y l =>
     rw [hw] at hx hl
     injection hx with hx
     subst hx
     obtain ⟨_, _, z, us, _, _, _, hz, hus, _⟩ := hs.at_ (k := 0) (by rw [← hl]; simp)
     rw [hw] at hz
     have : z = Itm.mk y := by simpa using hz.symm
     subst this
     exact hus.2.2.2.2
   ·cases hx
  ·exact h0
 ·exact h0
def FactP (S : Nat → Prop) (c : Nat) (r : Fact × Cur) (w : World) (e : Ending) (w' : World) : Prop :=
 e = .returned (facV r.1) ∧ CurAt w' S c r.2 ∧ Only c w w'
set_option maxRecDepth 100000 in
set_option maxHeartbeats 16000000 in
theorem fact28_any (w : World) (S : Nat → Prop) (c nb : Nat) (s : Cur) (h : CurAt w S c s) (hnm : Names w nb) (hnc : nb ≠ c) (S2 : Nat → Prop) (A2 : Option Addr) (n2 k2 : Nat) (l : List Fact) (h2 : Sl w S2 A2 n2 k2 l) (hS2 : ¬ S2 c) (hn2 : n2 ≤ 1099511627776) : Calls Tryz.prog 80 #[rdV c nb, .slice A2 n2 k2] w (FactP S c (factC l s) w) := by
 have hlt := h.lt
 have hnl := hnm.lt
 obtain ⟨R, hR⟩ : ∃ R, w.heap.size = R := ⟨_, rfl⟩
 obtain ⟨M, hM⟩ : ∃ M, R + 1 = M := ⟨_, rfl⟩
 obtain ⟨S1, hS1⟩ : ∃ S1 : Nat → Prop, S1 = fun b => S b ∧ b < R := ⟨_, rfl⟩
 have HS1 := hide hS1; have HNS := hide h.nS
 have hat0 : CurAt w S1 c s := h.moreS (fun b hb hS => by rw [hS1]; exact ⟨hS, by omega⟩) (by rw [hS1]; exact fun e => h.nS e.1)
 obtain ⟨W1, hW1⟩ : ∃ W1, (w.alloc (.cells #[.pointer (some ⟨c, 0, none⟩), .map (some nb)] 62)).alloc (.cells #[.int .i64 0, .bool false, .int .i64 0] 42) = W1 := ⟨_, rfl⟩
 have HT1 := hide (show FAt w W1 R M c nb S1 (.int .i64 0) (.bool false) (.int .i64 0) s from by
  refine ⟨?_, ?_, ?_, ?_, ?_, by omega, by omega, fun b hb => by rw [hS1] at hb; exact hb.2, by omega, by omega, hnc⟩
  ·rw [← hW1, Below.heap_alloc _ _ _ (by simp; omega), ← hR]; exact heap_alloc_new w _
  ·have h := heap_alloc_new (w.alloc (.cells #[.pointer (some ⟨c, 0, none⟩), .map (some nb)] 62)) (.cells #[.int .i64 0, .bool false, .int .i64 0] 42 (0, 0))
   rw [← hW1, ← hM, ← hR]; simpa using h
  ·rw [← hW1]; exact (hat0.alloc _).alloc _
  ·rw [← hW1]; exact ((Only.refl c w).alloc _).alloc _
  ·rw [← hW1]; exact (hnm.alloc _).alloc _)
 have HL2 := hide (fun (W : World) (ho : Only c w W) => (ho.sl h2 hS2 : Sl W S2 A2 n2 k2 l))
 have HN2 := hide h2.len
 clear h hat0 hS1 h2
 obtain ⟨b1, hb1⟩ : ∃ b, decide ((n2 : Int) < 600) = b := ⟨_, rfl⟩
 obtain ⟨s1, hs1⟩ : ∃ x, unlessC b1 3 s = x := ⟨_, rfl⟩
 obtain ⟨pk, hpk⟩ : ∃ x, peekC s1 = x := ⟨_, rfl⟩
 obtain ⟨vn, hvn⟩ : ∃ x, varW pk = x := ⟨_, rfl⟩
 obtain ⟨b2, hb2⟩ : ∃ x, (vn != 0) = x := ⟨_, rfl⟩
 obtain ⟨s2, hs2⟩ : ∃ x, unlessC b2 7 s1 = x := ⟨_, rfl⟩
 obtain ⟨q3, hq3⟩ : ∃ x, nameC s2 = x := ⟨_, rfl⟩
 obtain ⟨s4, hs4⟩ : ∃ x, markC [tEq] q3.2 = x := ⟨_, rfl⟩
 obtain ⟨pl, hpl⟩ : ∃ x, peekC s4 = x := ⟨_, rfl⟩
 obtain ⟨ps, hps⟩ : ∃ x, nmSlot (nameW pl) = x := ⟨_, rfl⟩
 obtain ⟨pn, hpn⟩ : ∃ x, nmNum (nameW pl) = x := ⟨_, rfl⟩
 obtain ⟨b4, hb4⟩ : ∃ x, nmIsLoc (nameW pl) = x := ⟨_, rfl⟩
 have hpw : (placeW pl).getD ⟨false, 0⟩ = ⟨ps, pn⟩ ∧ (placeW pl).isSome = b4 := by
  rw [← hps, ← hpn, ← hb4]; exact nmLoc_w pl
 have hfc : factC l s = (⟨vn, ⟨ps, pn⟩⟩, (nameC (unlessC (b4 && lastOk l ⟨vn, ⟨ps, pn⟩⟩) 7 s4)).2) := by
  unfold factC
  simp only
  rw [show decide (l.length < 600) = b1 from by rw [← hb1, HN2.out, Bool.eq_iff_iff]; simp; omega, hs1, hpk, hvn, hb2, hs2, hq3, hs4, hpl, hpw.1, hpw.2]
 rw [hfc]
 clear hfc hpw
 have HB1 := hide hb1; have HS1Q := hide hs1; have HPK := hide hpk; have HVN := hide hvn; have HB2 := hide hb2; have HS2Q := hide hs2; have HQ3 := hide hq3; have HS4 := hide hs4; have HPL := hide hpl; have HPS := hide hps; have HPN := hide hpn; have HB4 := hide hb4
 have hvi : InI vn := by rw [← hvn, ← nmVar_w]; exact (nm_in pk).1
 have hpi : InI pn := by rw [← hpn]; exact (nm_in pl).2
 have HVI := hide hvi; have HPI := hide hpi
 have HRQ := hide hR; have HMQ := hide hM
 clear hs1 hpk hvn hb2 hs2 hq3 hs4 hpl hps hpn hb4 hvi hpi hnl hlt
 have r0 : W1.cell? ⟨R, 0, none⟩ = some (.pointer (some ⟨c, 0, none⟩)) := cell_of_row W1 R _ _ _ (0, 0) HT1.out.rdr
 have r1 : W1.cell? ⟨R, 1, none⟩ = some (.map (some nb)) := cell_of_row W1 R _ _ _ (0, 0) HT1.out.rdr
 obtain ⟨m0, m1, m2⟩ := cells3 HT1.out.row
 have fz : ∀ j, W1.frozen? ⟨M, j, none⟩ = false := fun j => by simp [World.frozen?, HT1.out.row]
 have f0 := fz 0
 have f1 := fz 1
 have f2 := fz 2
 have rl := HT1.out.rl
 have ml := HT1.out.ml
 go_enter Tryz.func80, Tryz.ntmps80
 go_wp2_with (first | (go_at_call 31; (with_reducible refine (unless28_any HT1.out.cur nb _ _).mono ?_); rintro e V2 ⟨rfl, hat, hon⟩; have HT2 := hide (show FAt w V2 R M c nb S1 (.int .i64 0) (.bool false) (.int .i64 0) s1 from HS1Q.out ▸ HT1.out.call hon hat); clear hat hon; refine Hd.out ?_))
 clear r0 r1 m0 m1 m2 fz f0 f1 f2 rl ml
 clear hW1 HT1 hb1
 have r0 : V2.cell? ⟨R, 0, none⟩ = some (.pointer (some ⟨c, 0, none⟩)) := cell_of_row V2 R _ _ _ (0, 0) HT2.out.rdr
 have r1 : V2.cell? ⟨R, 1, none⟩ = some (.map (some nb)) := cell_of_row V2 R _ _ _ (0, 0) HT2.out.rdr
 obtain ⟨m0, m1, m2⟩ := cells3 HT2.out.row
 have fz : ∀ j, V2.frozen? ⟨M, j, none⟩ = false := fun j => by simp [World.frozen?, HT2.out.row]
 have f0 := fz 0
 have f1 := fz 1
 have f2 := fz 2
 have rl := HT2.out.rl
 have ml := HT2.out.ml
 have HPE := hide (show ∀ u : Ext, Calls Tryz.prog 131 #[.pointer (some ⟨c, 0, none⟩)] (V2.ext u) (Ret (.string pk) (V2.ext u)) from fun u => HPK.out ▸ cPeek (HT2.out.cur.ext u))
 have hpsz : pk.size ≤ maxLen := HPK.out ▸ peek_sz HT2.out.cur
 obtain ⟨nx, hnx⟩ : ∃ x, nmV? (nameW pk) = x := ⟨_, rfl⟩
 have hlk : ∀ u : Ext, (Instr.lookup 59 (.map (some nb)) (.string pk) false).run Tryz.prog (V2.ext u) = .ok nx (V2.ext u) := fun u => hnx ▸ (HT2.out.ext u).look pk hpsz
 have hta : ∀ W : World, (Instr.typeAssert nx 20 118 true).run Tryz.prog W = .ok (.tuple #[.int .i64 vn, .bool b2]) W := fun W => by
  have h := as28_nmvar (nameW pk) W
  rw [hnx, nmVar_w pk, nmIsVar_w pk, HVN.out, HB2.out] at h
  exact h
 clear hpsz hnx
 refine hide ?_
 go_wp2_with fail
 refine wp_region_flow_ext [] [] (by kernel_rfl) rfl (by kernel_rfl) ?_
 repeat (refine flow_known (by kernel_rfl) (fun K hK => ?_); go_simp; (first | (refine hK _ ?_; clear hK K) | (apply Exists.intro; refine ⟨fun _ => ?_, hK _ ?_⟩; ((go_at_call 131; with_reducible exact Ret.retX (HPE.out _))); clear hK K)))
 refine flow_done [] (by kernel_rfl) ?_
 intro u2
 simp only [List.nil_append, List.cons_append, endH_f, endH_t, endH_nil]
 go_simp
 obtain ⟨V3, hV3⟩ : ∃ V, V2.ext u2 = V := ⟨_, rfl⟩
 have HT3 := hide (show FAt w V3 R M c nb S1 (.int .i64 0) (.bool false) (.int .i64 0) s1 from by rw [← hV3]; exact HT2.out.ext u2)
 rw [hV3]
 clear hV3 hlk hta HPE HT2
 clear r0 r1 m0 m1 m2 fz f0 f1 f2 rl ml
 have r0 : V3.cell? ⟨R, 0, none⟩ = some (.pointer (some ⟨c, 0, none⟩)) := cell_of_row V3 R _ _ _ (0, 0) HT3.out.rdr
 have r1 : V3.cell? ⟨R, 1, none⟩ = some (.map (some nb)) := cell_of_row V3 R _ _ _ (0, 0) HT3.out.rdr
 obtain ⟨m0, m1, m2⟩ := cells3 HT3.out.row
 have fz : ∀ j, V3.frozen? ⟨M, j, none⟩ = false := fun j => by simp [World.frozen?, HT3.out.row]
 have f0 := fz 0
 have f1 := fz 1
 have f2 := fz 2
 have rl := HT3.out.rl
 have ml := HT3.out.ml
 go_wp2_with (first
  | (go_at_call 31; (with_reducible refine (unless28_any HT3.out.cur nb _ _).mono ?_); rintro e V4 ⟨rfl, hat, hon⟩; have HT4 := hide (show FAt w V4 R M c nb S1 (.int .i64 0) (.bool false) (.int .i64 0) s2 from HS2Q.out ▸ HT3.out.call hon hat); clear hat hon; refine Hd.out ?_))
 clear r0 r1 m0 m1 m2 fz f0 f1 f2 rl ml
 clear HT3
 have r0 : V4.cell? ⟨R, 0, none⟩ = some (.pointer (some ⟨c, 0, none⟩)) := cell_of_row V4 R _ _ _ (0, 0) HT4.out.rdr
 have r1 : V4.cell? ⟨R, 1, none⟩ = some (.map (some nb)) := cell_of_row V4 R _ _ _ (0, 0) HT4.out.rdr
 obtain ⟨m0, m1, m2⟩ := cells3 HT4.out.row
 have fz : ∀ j, V4.frozen? ⟨M, j, none⟩ = false := fun j => by simp [World.frozen?, HT4.out.row]
 have f0 := fz 0
 have f1 := fz 1
 have f2 := fz 2
 have rl := HT4.out.rl
 have ml := HT4.out.ml
 have HNA := hide (show Calls Tryz.prog 132 #[.pointer (some ⟨c, 0, none⟩)] V4 (CurP S1 c V4 q3.2 (.string q3.1)) from HQ3.out ▸ cName HT4.out.cur)
 refine hide ?_
 go_wp2_with (first
  | (go_at_call 132; (with_reducible refine HNA.out.mono ?_); rintro e V5 ⟨rfl, hat, hon⟩; have HT5 := hide (HT4.out.call hon hat); clear hat hon; refine Hd.out ?_))
 clear r0 r1 m0 m1 m2 fz f0 f1 f2 rl ml
 clear HT4 HNA
 have r0 : V5.cell? ⟨R, 0, none⟩ = some (.pointer (some ⟨c, 0, none⟩)) := cell_of_row V5 R _ _ _ (0, 0) HT5.out.rdr
 have r1 : V5.cell? ⟨R, 1, none⟩ = some (.map (some nb)) := cell_of_row V5 R _ _ _ (0, 0) HT5.out.rdr
 obtain ⟨m0, m1, m2⟩ := cells3 HT5.out.row
 have fz : ∀ j, V5.frozen? ⟨M, j, none⟩ = false := fun j => by simp [World.frozen?, HT5.out.row]
 have f0 := fz 0
 have f1 := fz 1
 have f2 := fz 2
 have rl := HT5.out.rl
 have ml := HT5.out.ml
 have HMK := hide (show Calls Tryz.prog 76 #[.pointer (some ⟨c, 0, none⟩), .slice (some ⟨V5.heap.size, 0, none⟩) 1 1] (V5.alloc (.cells #[.string ⟨#[61]⟩] 9)) (CurP S1 c (V5.alloc (.cells #[.string ⟨#[61]⟩] 9)) s4 (.tuple #[])) from by
  have h := cMark (HT5.out.alloc (.cells #[.string ⟨#[61]⟩] 9)).cur (ts := [tEq]) (Sl.lit (S := fun _ => False) (S' := fun b => c < b) (us := [.string ⟨#[61]⟩]) rfl ⟨[.string ⟨#[61]⟩], [], rfl, ⟨rfl, by unfold maxLen; decide⟩, rfl⟩ rfl (by decide) (fun _ h => h.elim) (by have := HT5.out.o1; omega)) (by show ¬ c < c; omega)
  rw [HS4.out] at h
  exact h)
 refine hide ?_
 go_wp2_with (first | (go_at_call 76; (with_reducible refine HMK.out.mono ?_); rintro e V6 ⟨rfl, hat, hon⟩; have HT6 := hide ((HT5.out.alloc (.cells #[.string ⟨#[61]⟩] 9)).call hon hat); clear hat hon; refine Hd.out ?_))
 clear r0 r1 m0 m1 m2 fz f0 f1 f2 rl ml
 clear HMK HT5
 have r0 : V6.cell? ⟨R, 0, none⟩ = some (.pointer (some ⟨c, 0, none⟩)) := cell_of_row V6 R _ _ _ (0, 0) HT6.out.rdr
 have r1 : V6.cell? ⟨R, 1, none⟩ = some (.map (some nb)) := cell_of_row V6 R _ _ _ (0, 0) HT6.out.rdr
 obtain ⟨m0, m1, m2⟩ := cells3 HT6.out.row
 have fz : ∀ j, V6.frozen? ⟨M, j, none⟩ = false := fun j => by simp [World.frozen?, HT6.out.row]
 have f0 := fz 0
 have f1 := fz 1
 have f2 := fz 2
 have rl := HT6.out.rl
 have ml := HT6.out.ml
 have HPE := hide (show ∀ u : Ext, Calls Tryz.prog 131 #[.pointer (some ⟨c, 0, none⟩)] (V6.ext u) (Ret (.string pl) (V6.ext u)) from fun u => HPL.out ▸ cPeek (HT6.out.cur.ext u))
 have hpsz : pl.size ≤ maxLen := HPL.out ▸ peek_sz HT6.out.cur
 obtain ⟨nx, hnx⟩ : ∃ x, nmV? (nameW pl) = x := ⟨_, rfl⟩
 have hlk : ∀ u : Ext, (Instr.lookup 59 (.map (some nb)) (.string pl) false).run Tryz.prog (V6.ext u) = .ok nx (V6.ext u) := fun u => hnx ▸ (HT6.out.ext u).look pl hpsz
 have hta : ∀ W : World, (Instr.typeAssert nx 20 40 true).run Tryz.prog W = .ok (.tuple #[.agg #[.bool ps, .int .i64 pn], .bool b4]) W := fun W => by
  have h := as28_nmloc (nameW pl) W
  rw [hnx, HPS.out, HPN.out, HB4.out] at h
  exact h
 clear hpsz hnx
 refine hide ?_
 go_wp2_with fail
 refine wp_region_flowX [11] [11] 10 (NewL V6) (fun g => .pointer (some ⟨g, 0, none⟩)) (by kernel_rfl) rfl rfl (by kernel_rfl) (by kernel_rfl) (by kernel_rfl) (fun x w u h => h.ext u) (fun x w' h => h.1) ?_
 simp only [List.take_succ_cons, List.take_zero, List.drop_succ_cons, List.drop_zero]
 repeat (refine kpre_known (fun K hK => ?_); go_simp; (first | (refine hK _ ?_; clear hK K) | (apply Exists.intro; refine ⟨fun _ => ?_, hK _ ?_⟩; (go_at_call 131; with_reducible exact Ret.retX (HPE.out _)); clear hK K)))
 refine ⟨fun u => ?_, fun g => ?_⟩
 ·go_simp
  have ho := onW_alloc (w0 := V6) (w := V6.ext u) (b := false) (o := .cells #[.bool false, .int .i64 0] 40 (0, 0)) rfl ⟨u, rfl⟩
  refine ⟨⟨ho.1, by omega, #[.bool false, .int .i64 0], ?_, rfl⟩, ho⟩
  have h := heap_alloc_new (V6.ext u) (.cells #[.bool false, .int .i64 0] 40 (0, 0))
  rw [size_ext] at h
  exact h
 refine flow_held0 (fun _ W => W.heap[g]? = some (.cells #[.bool ps, .int .i64 pn] 40 (0, 0))) (by kernel_rfl) (stable_mem rfl fun _ W u h => by rw [ext_block W u g (Array.getElem?_eq_some_iff.1 h).1]; exact h) (fun W hW => ?_) ?_
 ·obtain ⟨⟨x, hx⟩, hg, cur, hc, hcs⟩ := hW
  refine HeldAt.store_X rfl 40 (.tmp 7) (.tmp 41) rfl g cur #[.bool ps, .int .i64 pn] rfl rfl hc (by kernel_rfl) hcs (by simp [Value.oneCell']) (fun w' v hh hw => ⟨hh, ?_, hg, _, hh, rfl⟩)
  rw [hw]
  exact Below.to_ext (below_setCells hg _ _ _ _ (by rw [hx]; exact Below.of_ext V6 x (Nat.le_refl _)))
 refine flow_known (by kernel_rfl) (fun K hK => ⟨.bool b4, fun W hW => ?_, hK _ ?_⟩)
 ·go_simp
 clear hK K
 refine flow_nil [true] (by kernel_rfl) (fun V7 hW => ?_)
 simp only [List.nil_append, List.cons_append, endH_f, endH_t, endH_nil]
 rintro _ hh
 go_simp
 obtain ⟨⟨x7, hx7⟩, hg7, _, _, _⟩ := hW
 have HT7 := hide (show FAt w V7 R M c nb S1 (.int .i64 0) (.bool false) (.int .i64 0) s4 from by rw [hx7]; exact HT6.out.ext x7)
 have hgM : g ≠ M := by have := HT6.out.ml; omega
 have gl : g < V7.heap.size := (Array.getElem?_eq_some_iff.1 hh).1
 have g0 : V7.cell? ⟨g, 0, none⟩ = some (.bool ps) := cell_of_row V7 g _ _ _ (0, 0) hh
 have g1 : V7.cell? ⟨g, 1, none⟩ = some (.int .i64 pn) := cell_of_row V7 g _ _ _ (0, 0) hh
 clear hlk hta HPE
 clear r0 r1 m0 m1 m2 fz f0 f1 f2 rl ml
 clear HT6 hh hx7
 have r0 : V7.cell? ⟨R, 0, none⟩ = some (.pointer (some ⟨c, 0, none⟩)) := cell_of_row V7 R _ _ _ (0, 0) HT7.out.rdr
 have r1 : V7.cell? ⟨R, 1, none⟩ = some (.map (some nb)) := cell_of_row V7 R _ _ _ (0, 0) HT7.out.rdr
 obtain ⟨m0, m1, m2⟩ := cells3 HT7.out.row
 have fz : ∀ j, V7.frozen? ⟨M, j, none⟩ = false := fun j => by simp [World.frozen?, HT7.out.row]
 have f0 := fz 0
 have f1 := fz 1
 have f2 := fz 2
 have rl := HT7.out.rl
 have ml := HT7.out.ml
 go_wp2_with fail
 obtain ⟨Y, hY⟩ : ∃ Y, ((V7.setCell ⟨M, 0, none⟩ (.int .i64 vn)).setCell ⟨M, 1, none⟩ (.bool ps)).setCell ⟨M, 2, none⟩ (.int .i64 pn) = Y := ⟨_, rfl⟩
 have HT8 := hide (show FAt w Y R M c nb S1 (.int .i64 vn) (.bool ps) (.int .i64 pn) s4 from by
  rw [← hY]
  exact FAt.set (u0 := .int .i64 vn) (u1 := .bool ps) (u2 := .int .i64 pn) (FAt.set (u0 := .int .i64 vn) (u1 := .bool ps) (u2 := .int .i64 0) (FAt.set (u0 := .int .i64 vn) (u1 := .bool false) (u2 := .int .i64 0) HT7.out rfl) rfl) rfl)
 rw [hY]
 clear hY g0 g1 gl hgM hg7
 clear r0 r1 m0 m1 m2 fz f0 f1 f2 rl ml
 clear HT7
 obtain ⟨b5, hb5⟩ : ∃ b, (b4 && lastOk l ⟨vn, ⟨ps, pn⟩⟩) = b := ⟨_, rfl⟩
 obtain ⟨s5, hs5⟩ : ∃ x, unlessC b5 7 s4 = x := ⟨_, rfl⟩
 have HS5 := hide hs5
 rw [hb5, hs5]
 clear hs5
 have HB5 := hide hb5
 clear hb5
 have hsp : b4 = false ∨ (b4 = true ∧ n2 = 0) ∨ (b4 = true ∧ n2 ≠ 0) := by
  cases b4
  ·exact .inl rfl
  ·by_cases h : n2 = 0
   ·exact .inr (.inl ⟨rfl, h⟩)
   ·exact .inr (.inr ⟨rfl, h⟩)
 rcases hsp with rfl | ⟨rfl, hn0⟩ | ⟨rfl, hn0⟩
 ·skip
  have hb5 : b5 = false := by rw [← HB5.out]; rfl
  have r0 : Y.cell? ⟨R, 0, none⟩ = some (.pointer (some ⟨c, 0, none⟩)) := cell_of_row Y R _ _ _ (0, 0) HT8.out.rdr
  have r1 : Y.cell? ⟨R, 1, none⟩ = some (.map (some nb)) := cell_of_row Y R _ _ _ (0, 0) HT8.out.rdr
  obtain ⟨m0, m1, m2⟩ := cells3 HT8.out.row
  have fz : ∀ j, Y.frozen? ⟨M, j, none⟩ = false := fun j => by simp [World.frozen?, HT8.out.row]
  have f0 := fz 0
  have f1 := fz 1
  have f2 := fz 2
  have rl := HT8.out.rl
  have ml := HT8.out.ml
  refine wp_region_G_tail (extF Y) (extF Y) [] [] 17 (by kernel_rfl) rfl (by kernel_rfl) (by kernel_rfl) (fun _ u ⟨x, hx⟩ => by rw [hx]; exact ext_ext Y x u) (fun _ u ⟨x, hx⟩ => by rw [hx]; exact ext_ext Y x u) (ext_drew Y) (ext_drew Y) ?_
  simp only [List.take_succ_cons, List.take_zero, List.drop_succ_cons, List.drop_zero]
  repeat (refine flowG_known0 (by kernel_rfl) (by kernel_rfl) (fun K hK => ?_); go_simp; (first | (refine hK _ ?_; clear hK K) | (refine ⟨undef, (by intros; rw [if_neg (by decide)]), hK _ ?_⟩; clear hK K) | (apply Exists.intro; refine ⟨fun _ => ?_, hK _ ?_⟩; (fail); clear hK K)))
  refine flowG_done [] (by kernel_rfl) (fun V9 hV9 => ?_)
  obtain ⟨u9, hV9⟩ := hV9
  have HT9 := hide (show FAt w V9 R M c nb S1 (.int .i64 vn) (.bool ps) (.int .i64 pn) s4 from by rw [hV9]; exact HT8.out.ext u9)
  clear hV9
  simp only [List.nil_append, List.cons_append, endH_f, endH_t, endH_nil]
  go_simp
  clear r0 r1 m0 m1 m2 fz f0 f1 f2 rl ml
  go_wp2_with (first | (go_at_call 31; (with_reducible refine (unless28_any HT9.out.cur nb _ _).mono ?_); rintro e V10 ⟨rfl, hat, hon⟩; have HT10 := hide (show FAt w V10 R M c nb S1 (.int .i64 vn) (.bool ps) (.int .i64 pn) s5 from by rw [← HS5.out, hb5]; exact HT9.out.call hon hat); clear hat hon; refine Hd.out ?_))
  clear hb5
  have r0 : V10.cell? ⟨R, 0, none⟩ = some (.pointer (some ⟨c, 0, none⟩)) := cell_of_row V10 R _ _ _ (0, 0) HT10.out.rdr
  have r1 : V10.cell? ⟨R, 1, none⟩ = some (.map (some nb)) := cell_of_row V10 R _ _ _ (0, 0) HT10.out.rdr
  obtain ⟨m0, m1, m2⟩ := cells3 HT10.out.row
  have fz : ∀ j, V10.frozen? ⟨M, j, none⟩ = false := fun j => by simp [World.frozen?, HT10.out.row]
  have f0 := fz 0
  have f1 := fz 1
  have f2 := fz 2
  have rl := HT10.out.rl
  have ml := HT10.out.ml
  have HNA := hide (show Calls Tryz.prog 132 #[.pointer (some ⟨c, 0, none⟩)] V10 (CurP S1 c V10 (nameC s5).2 (.string (nameC s5).1)) from cName HT10.out.cur)
  obtain ⟨q6, hq6⟩ : ∃ x, nameC s5 = x := ⟨_, rfl⟩
  rw [hq6] at HNA
  have HQ6 := hide hq6
  clear hq6
  refine hide ?_
  go_wp2_with (first | (go_at_call 132; (with_reducible refine HNA.out.mono ?_); rintro e V11 ⟨rfl, hat, hon⟩; have HT11 := hide (HT10.out.call hon hat); clear hat hon; refine Hd.out ?_))
  clear r0 r1 m0 m1 m2 fz f0 f1 f2 rl ml
  have r0 : V11.cell? ⟨R, 0, none⟩ = some (.pointer (some ⟨c, 0, none⟩)) := cell_of_row V11 R _ _ _ (0, 0) HT11.out.rdr
  have r1 : V11.cell? ⟨R, 1, none⟩ = some (.map (some nb)) := cell_of_row V11 R _ _ _ (0, 0) HT11.out.rdr
  obtain ⟨m0, m1, m2⟩ := cells3 HT11.out.row
  have fz : ∀ j, V11.frozen? ⟨M, j, none⟩ = false := fun j => by simp [World.frozen?, HT11.out.row]
  have f0 := fz 0
  have f1 := fz 1
  have f2 := fz 2
  have rl := HT11.out.rl
  have ml := HT11.out.ml
  refine hide ?_
  go_wp2_with fail
  obtain ⟨Z, hZ⟩ : ∃ Z, ((V11.setCell ⟨M, 0, none⟩ (.int .i64 vn)).setCell ⟨M, 1, none⟩ (.bool ps)).setCell ⟨M, 2, none⟩ (.int .i64 pn) = Z := ⟨_, rfl⟩
  have HTZ := hide (show FAt w Z R M c nb S1 (.int .i64 vn) (.bool ps) (.int .i64 pn) q6.2 from by
   rw [← hZ]
   exact FAt.set (u0 := .int .i64 vn) (u1 := .bool ps) (u2 := .int .i64 pn) (FAt.set (u0 := .int .i64 vn) (u1 := .bool ps) (u2 := .int .i64 pn) (FAt.set (u0 := .int .i64 vn) (u1 := .bool ps) (u2 := .int .i64 pn) HT11.out rfl) rfl) rfl)
  try rw [hZ]
  clear hZ
  refine bodyPost_ret (results_cell_row Tryz.results80 _ _ M _ _ (0, 0) _ rfl HTZ.out.row Tryz.underlying42 rfl (by kernel_rfl)) rfl ?_
  have hfin : nameC (unlessC (false && lastOk l ⟨vn, ⟨ps, pn⟩⟩) 7 s4) = q6 := by rw [← HQ6.out, ← HS5.out, ← HB5.out]
  try rw [hfin]
  exact ⟨rfl, HTZ.out.cur.moreS (fun b _ h => by rw [HS1.out] at h; exact h.1) HNS.out, HTZ.out.only⟩
 ·skip
  have hl0 : l = [] := List.eq_nil_of_length_eq_zero (by rw [HN2.out, hn0])
  have hb5 : b5 = true := by rw [← HB5.out, hl0]; rfl
  have hz2 : ((n2 : Int) == 0) = true := by rw [beq_iff_eq]; omega
  clear hl0
  have r0 : Y.cell? ⟨R, 0, none⟩ = some (.pointer (some ⟨c, 0, none⟩)) := cell_of_row Y R _ _ _ (0, 0) HT8.out.rdr
  have r1 : Y.cell? ⟨R, 1, none⟩ = some (.map (some nb)) := cell_of_row Y R _ _ _ (0, 0) HT8.out.rdr
  obtain ⟨m0, m1, m2⟩ := cells3 HT8.out.row
  have fz : ∀ j, Y.frozen? ⟨M, j, none⟩ = false := fun j => by simp [World.frozen?, HT8.out.row]
  have f0 := fz 0
  have f1 := fz 1
  have f2 := fz 2
  have rl := HT8.out.rl
  have ml := HT8.out.ml
  refine wp_region_G_tail (extF Y) (extF Y) [] [] 17 (by kernel_rfl) rfl (by kernel_rfl) (by kernel_rfl) (fun _ u ⟨x, hx⟩ => by rw [hx]; exact ext_ext Y x u) (fun _ u ⟨x, hx⟩ => by rw [hx]; exact ext_ext Y x u) (ext_drew Y) (ext_drew Y) ?_
  simp only [List.take_succ_cons, List.take_zero, List.drop_succ_cons, List.drop_zero]
  repeat (refine flowG_known0 (by kernel_rfl) (by kernel_rfl) (fun K hK => ?_); go_simp; (first | (refine hK _ ?_; clear hK K) | (refine ⟨undef, (by intros; rw [if_neg (by decide)]), hK _ ?_⟩; clear hK K) | (apply Exists.intro; refine ⟨fun _ => ?_, hK _ ?_⟩; (fail); clear hK K)))
  refine flowG_done [] (by kernel_rfl) (fun V9 hV9 => ?_)
  obtain ⟨u9, hV9⟩ := hV9
  have HT9 := hide (show FAt w V9 R M c nb S1 (.int .i64 vn) (.bool ps) (.int .i64 pn) s4 from by rw [hV9]; exact HT8.out.ext u9)
  clear hV9
  simp only [List.nil_append, List.cons_append, endH_f, endH_t, endH_nil]
  go_simp
  clear r0 r1 m0 m1 m2 fz f0 f1 f2 rl ml
  go_wp2_with (first | (go_at_call 31; (with_reducible refine (unless28_any HT9.out.cur nb _ _).mono ?_); rintro e V10 ⟨rfl, hat, hon⟩; have HT10 := hide (show FAt w V10 R M c nb S1 (.int .i64 vn) (.bool ps) (.int .i64 pn) s5 from by rw [← HS5.out, hb5]; exact HT9.out.call hon hat); clear hat hon; refine Hd.out ?_))
  clear hb5
  have r0 : V10.cell? ⟨R, 0, none⟩ = some (.pointer (some ⟨c, 0, none⟩)) := cell_of_row V10 R _ _ _ (0, 0) HT10.out.rdr
  have r1 : V10.cell? ⟨R, 1, none⟩ = some (.map (some nb)) := cell_of_row V10 R _ _ _ (0, 0) HT10.out.rdr
  obtain ⟨m0, m1, m2⟩ := cells3 HT10.out.row
  have fz : ∀ j, V10.frozen? ⟨M, j, none⟩ = false := fun j => by simp [World.frozen?, HT10.out.row]
  have f0 := fz 0
  have f1 := fz 1
  have f2 := fz 2
  have rl := HT10.out.rl
  have ml := HT10.out.ml
  have HNA := hide (show Calls Tryz.prog 132 #[.pointer (some ⟨c, 0, none⟩)] V10 (CurP S1 c V10 (nameC s5).2 (.string (nameC s5).1)) from cName HT10.out.cur)
  obtain ⟨q6, hq6⟩ : ∃ x, nameC s5 = x := ⟨_, rfl⟩
  rw [hq6] at HNA
  have HQ6 := hide hq6
  clear hq6
  refine hide ?_
  go_wp2_with (first | (go_at_call 132; (with_reducible refine HNA.out.mono ?_); rintro e V11 ⟨rfl, hat, hon⟩; have HT11 := hide (HT10.out.call hon hat); clear hat hon; refine Hd.out ?_))
  clear r0 r1 m0 m1 m2 fz f0 f1 f2 rl ml
  have r0 : V11.cell? ⟨R, 0, none⟩ = some (.pointer (some ⟨c, 0, none⟩)) := cell_of_row V11 R _ _ _ (0, 0) HT11.out.rdr
  have r1 : V11.cell? ⟨R, 1, none⟩ = some (.map (some nb)) := cell_of_row V11 R _ _ _ (0, 0) HT11.out.rdr
  obtain ⟨m0, m1, m2⟩ := cells3 HT11.out.row
  have fz : ∀ j, V11.frozen? ⟨M, j, none⟩ = false := fun j => by simp [World.frozen?, HT11.out.row]
  have f0 := fz 0
  have f1 := fz 1
  have f2 := fz 2
  have rl := HT11.out.rl
  have ml := HT11.out.ml
  refine hide ?_
  go_wp2_with fail
  obtain ⟨Z, hZ⟩ : ∃ Z, ((V11.setCell ⟨M, 0, none⟩ (.int .i64 vn)).setCell ⟨M, 1, none⟩ (.bool ps)).setCell ⟨M, 2, none⟩ (.int .i64 pn) = Z := ⟨_, rfl⟩
  have HTZ := hide (show FAt w Z R M c nb S1 (.int .i64 vn) (.bool ps) (.int .i64 pn) q6.2 from by
   rw [← hZ]
   exact FAt.set (u0 := .int .i64 vn) (u1 := .bool ps) (u2 := .int .i64 pn) (FAt.set (u0 := .int .i64 vn) (u1 := .bool ps) (u2 := .int .i64 pn) (FAt.set (u0 := .int .i64 vn) (u1 := .bool ps) (u2 := .int .i64 pn) HT11.out rfl) rfl) rfl)
  try rw [hZ]
  clear hZ
  refine bodyPost_ret (results_cell_row Tryz.results80 _ _ M _ _ (0, 0) _ rfl HTZ.out.row Tryz.underlying42 rfl (by kernel_rfl)) rfl ?_
  have hfin : nameC (unlessC (true && lastOk l ⟨vn, ⟨ps, pn⟩⟩) 7 s4) = q6 := by rw [← HQ6.out, ← HS5.out, ← HB5.out]
  try rw [hfin]
  exact ⟨rfl, HTZ.out.cur.moreS (fun b _ h => by rw [HS1.out] at h; exact h.1) HNS.out, HTZ.out.only⟩
 ·skip
  obtain ⟨m, hm⟩ : ∃ m, n2 - 1 = m := ⟨_, rfl⟩
  have hmn : m < n2 := by omega
  obtain ⟨bq, oq, x, hAq, hbq, hxq, hxi1, hxi2, d0, d1, d2⟩ := at_Fact (HL2.out Y HT8.out.only) hmn
  subst hAq
  have hz2 : ((n2 : Int) == 0) = false := by rw [beq_eq_false_iff_ne]; omega
  have hm1 : (n2 : Int) - 1 = (m : Int) := by omega
  have hmi : (m : Int) < n2 := by omega
  have hmw : IntKind.i64.wrap (m : Int) = (m : Int) := IntWalk.i64_in _ (by omega)
  obtain ⟨bh, hbh⟩ : ∃ b, aheadF x ⟨vn, ⟨ps, pn⟩⟩ = b := ⟨_, rfl⟩
  have hb5 : b5 = bh := by
   rw [← HB5.out, ← hbh]
   unfold lastOk
   rw [List.getLast?_eq_getElem?, HN2.out, hm, hxq]
   rfl
  have HAH := hide (fun (W : World) => show Calls Tryz.prog 19 #[.agg #[.int .i64 x.var, .bool x.loc.slot, .int .i64 x.loc.n], .agg #[.int .i64 vn, .bool ps, .int .i64 pn]] W (RetX (.bool bh) W) from hbh ▸ ahead28_any W x ⟨vn, ⟨ps, pn⟩⟩ ⟨hxi1, hxi2⟩ ⟨HVI.out, HPI.out⟩)
  clear hxq hm hbh hxi1 hxi2
  have r0 : Y.cell? ⟨R, 0, none⟩ = some (.pointer (some ⟨c, 0, none⟩)) := cell_of_row Y R _ _ _ (0, 0) HT8.out.rdr
  have r1 : Y.cell? ⟨R, 1, none⟩ = some (.map (some nb)) := cell_of_row Y R _ _ _ (0, 0) HT8.out.rdr
  obtain ⟨m0, m1, m2⟩ := cells3 HT8.out.row
  have fz : ∀ j, Y.frozen? ⟨M, j, none⟩ = false := fun j => by simp [World.frozen?, HT8.out.row]
  have f0 := fz 0
  have f1 := fz 1
  have f2 := fz 2
  have rl := HT8.out.rl
  have ml := HT8.out.ml
  refine wp_region_G_tail (extF Y) (extF Y) [] [] 17 (by kernel_rfl) rfl (by kernel_rfl) (by kernel_rfl) (fun _ u ⟨x, hx⟩ => by rw [hx]; exact ext_ext Y x u) (fun _ u ⟨x, hx⟩ => by rw [hx]; exact ext_ext Y x u) (ext_drew Y) (ext_drew Y) ?_
  simp only [List.take_succ_cons, List.take_zero, List.drop_succ_cons, List.drop_zero]
  repeat (refine flowG_known0 (by kernel_rfl) (by kernel_rfl) (fun K hK => ?_); go_simp; (first | (refine hK _ ?_; clear hK K) | (refine ⟨undef, (by intros; rw [if_neg (by decide)]), hK _ ?_⟩; clear hK K) | (apply Exists.intro; refine ⟨fun _ => ?_, hK _ ?_⟩; (go_at_call 19; with_reducible exact HAH.out _); clear hK K)))
  refine flowG_done [] (by kernel_rfl) (fun V9 hV9 => ?_)
  obtain ⟨u9, hV9⟩ := hV9
  have HT9 := hide (show FAt w V9 R M c nb S1 (.int .i64 vn) (.bool ps) (.int .i64 pn) s4 from by rw [hV9]; exact HT8.out.ext u9)
  clear hV9
  simp only [List.nil_append, List.cons_append, endH_f, endH_t, endH_nil]
  go_simp
  clear r0 r1 m0 m1 m2 fz f0 f1 f2 rl ml
  go_wp2_with (first | (go_at_call 31; (with_reducible refine (unless28_any HT9.out.cur nb _ _).mono ?_); rintro e V10 ⟨rfl, hat, hon⟩; have HT10 := hide (show FAt w V10 R M c nb S1 (.int .i64 vn) (.bool ps) (.int .i64 pn) s5 from by rw [← HS5.out, hb5]; exact HT9.out.call hon hat); clear hat hon; refine Hd.out ?_))
  clear hb5
  have r0 : V10.cell? ⟨R, 0, none⟩ = some (.pointer (some ⟨c, 0, none⟩)) := cell_of_row V10 R _ _ _ (0, 0) HT10.out.rdr
  have r1 : V10.cell? ⟨R, 1, none⟩ = some (.map (some nb)) := cell_of_row V10 R _ _ _ (0, 0) HT10.out.rdr
  obtain ⟨m0, m1, m2⟩ := cells3 HT10.out.row
  have fz : ∀ j, V10.frozen? ⟨M, j, none⟩ = false := fun j => by simp [World.frozen?, HT10.out.row]
  have f0 := fz 0
  have f1 := fz 1
  have f2 := fz 2
  have rl := HT10.out.rl
  have ml := HT10.out.ml
  have HNA := hide (show Calls Tryz.prog 132 #[.pointer (some ⟨c, 0, none⟩)] V10 (CurP S1 c V10 (nameC s5).2 (.string (nameC s5).1)) from cName HT10.out.cur)
  obtain ⟨q6, hq6⟩ : ∃ x, nameC s5 = x := ⟨_, rfl⟩
  rw [hq6] at HNA
  have HQ6 := hide hq6
  clear hq6
  refine hide ?_
  go_wp2_with (first | (go_at_call 132; (with_reducible refine HNA.out.mono ?_); rintro e V11 ⟨rfl, hat, hon⟩; have HT11 := hide (HT10.out.call hon hat); clear hat hon; refine Hd.out ?_))
  clear r0 r1 m0 m1 m2 fz f0 f1 f2 rl ml
  have r0 : V11.cell? ⟨R, 0, none⟩ = some (.pointer (some ⟨c, 0, none⟩)) := cell_of_row V11 R _ _ _ (0, 0) HT11.out.rdr
  have r1 : V11.cell? ⟨R, 1, none⟩ = some (.map (some nb)) := cell_of_row V11 R _ _ _ (0, 0) HT11.out.rdr
  obtain ⟨m0, m1, m2⟩ := cells3 HT11.out.row
  have fz : ∀ j, V11.frozen? ⟨M, j, none⟩ = false := fun j => by simp [World.frozen?, HT11.out.row]
  have f0 := fz 0
  have f1 := fz 1
  have f2 := fz 2
  have rl := HT11.out.rl
  have ml := HT11.out.ml
  refine hide ?_
  go_wp2_with fail
  obtain ⟨Z, hZ⟩ : ∃ Z, ((V11.setCell ⟨M, 0, none⟩ (.int .i64 vn)).setCell ⟨M, 1, none⟩ (.bool ps)).setCell ⟨M, 2, none⟩ (.int .i64 pn) = Z := ⟨_, rfl⟩
  have HTZ := hide (show FAt w Z R M c nb S1 (.int .i64 vn) (.bool ps) (.int .i64 pn) q6.2 from by
   rw [← hZ]
   exact FAt.set (u0 := .int .i64 vn) (u1 := .bool ps) (u2 := .int .i64 pn) (FAt.set (u0 := .int .i64 vn) (u1 := .bool ps) (u2 := .int .i64 pn) (FAt.set (u0 := .int .i64 vn) (u1 := .bool ps) (u2 := .int .i64 pn) HT11.out rfl) rfl) rfl)
  try rw [hZ]
  clear hZ
  refine bodyPost_ret (results_cell_row Tryz.results80 _ _ M _ _ (0, 0) _ rfl HTZ.out.row Tryz.underlying42 rfl (by kernel_rfl)) rfl ?_
  have hfin : nameC (unlessC (true && lastOk l ⟨vn, ⟨ps, pn⟩⟩) 7 s4) = q6 := by rw [← HQ6.out, ← HS5.out, ← HB5.out]
  try rw [hfin]
  exact ⟨rfl, HTZ.out.cur.moreS (fun b _ h => by rw [HS1.out] at h; exact h.1) HNS.out, HTZ.out.only⟩
end Go.Proofs.YtppkanniefignaaGreatDoor
namespace Go.Proofs.YtppkanniefignaaGreatDoor
open Go.RowKit Go.Maps
structure RAt (w0 W : World) (R c nb : Nat) (S : Nat → Prop) (s : Cur) : Prop where
 rdr : W.heap[R]? = some (.cells #[.pointer (some ⟨c, 0, none⟩), .map (some nb)] 62 (0, 0))
 cur : CurAt W S c s
 only : Only c w0 W
 nm : Names W nb
 o1 : c < R
 o3 : ∀ b, S b → b < R
 o4 : w0.heap.size ≤ R
 o5 : nb < R
 o6 : nb ≠ c
section
variable {w0 W W' : World} {R c nb : Nat} {S : Nat → Prop} {s s' : Cur}
theorem RAt.rl (h : RAt w0 W R c nb S s) : R < W.heap.size := (Array.getElem?_eq_some_iff.1 h.rdr).1
theorem RAt.call (h : RAt w0 W R c nb S s) (hon : Only c W W') (hat : CurAt W' S c s') : RAt w0 W' R c nb S s' :=
 ⟨(hon.block R h.rl (by have := h.o1; omega)).trans h.rdr, hat, h.only.trans hon, h.nm.keep (hon.block nb (by have := h.o5; have := h.rl; omega) h.o6), h.o1, h.o3, h.o4, h.o5, h.o6⟩
theorem RAt.alloc (h : RAt w0 W R c nb S s) (o : Obj) : RAt w0 (W.alloc o) R c nb S s := h.call ((Only.refl c W).alloc o) (h.cur.alloc o)
theorem RAt.grown {row : Option Nat} (h : RAt w0 W R c nb S s) (hg : W.grownBy W' row) (hr : ∀ g, row = some g → R < g) : RAt w0 W' R c nb S s := by
 have hk : ∀ b, b < W.heap.size → b ≤ R → W'.heap[b]? = W.heap[b]? := fun b hb hm => hg.block b hb (fun e => by have := hr b e.symm; omega)
 have o1 := h.o1; have o4 := h.o4; have o5 := h.o5; have rl := h.rl
 have hb0 : Below (R + 1) W W' := (Below.refl _ _).grown hg (by omega) (fun r e => hr r e)
 exact ⟨(hk R rl (Nat.le_refl _)).trans h.rdr, h.cur.keep hg.size (hk c (by omega) (by omega)) (fun b hS hb => hk b hb (by have := h.o3 b hS; omega)), ⟨hb0.os.trans h.only.os, hb0.tape.trans h.only.tape, hb0.output.trans h.only.output, Nat.le_trans h.only.size hg.size, fun b hb hc => (hk b (by have := h.only.size; omega) (by omega)).trans (h.only.block b hb hc)⟩, h.nm.keep (hk nb (by omega) (by omega)), o1, h.o3, o4, o5, h.o6⟩
end
theorem info_Fact28 : (Tryz.prog.info? 42).map (fun i => (i.zero, i.size, i.bytes)) = some (some (.agg #[.int .i64 0, .bool false, .int .i64 0]), 3, 24) := by kernel_rfl
theorem factC_in (l : List Fact) (s : Cur) : InI (factC l s).1.var ∧ InI (factC l s).1.loc.n := by
 unfold factC
 simp only
 refine ⟨by rw [← nmVar_w]; exact (nm_in _).1, ?_⟩
 rw [(nmLoc_w _).1]
 exact (nm_in _).2
def FactsP (S : Nat → Prop) (c : Nat) (r : List Fact × Cur) (w : World) (e : Ending) (w' : World) : Prop :=
 ∃ A n k, e = .returned (.slice A n k) ∧ OwnL w' w.heap.size 42 (fun _ => False) (.slice A n k) r.1 ∧ CurAt w' S c r.2 ∧ Only c w w'
def moreV (v : Value) : Nat := match v with
 | .bool true => 1
 | _ => 0
set_option maxRecDepth 100000 in
set_option maxHeartbeats 16000000 in
theorem facts28_any (w : World) (S : Nat → Prop) (c nb : Nat) (s : Cur) (h : CurAt w S c s) (hnm : Names w nb) (hnc : nb ≠ c) (hl : leftC s ≤ 1099511627770) : Calls Tryz.prog 33 #[rdV c nb] w (FactsP S c (factsC s) w) := by
 obtain ⟨i0, hi, hz, hz1, hz2⟩ := info_parts info_Fact28
 have HI0 := hide hi; have HZ := hide hz; have HZ1 := hide hz1; have HZ2 := hide hz2
 clear hi hz hz1 hz2
 have hlt := h.lt
 have hnl := hnm.lt
 obtain ⟨R, hR⟩ : ∃ R, w.heap.size = R := ⟨_, rfl⟩
 obtain ⟨S1, hS1⟩ : ∃ S1 : Nat → Prop, S1 = fun b => S b ∧ b < R := ⟨_, rfl⟩
 have HS1 := hide hS1; have HNS := hide h.nS
 have hat0 : CurAt w S1 c s := h.moreS (fun b hb hS => by rw [hS1]; exact ⟨hS, by omega⟩) (by rw [hS1]; exact fun e => h.nS e.1)
 obtain ⟨W1, hW1⟩ : ∃ W1, w.alloc (.cells #[.pointer (some ⟨c, 0, none⟩), .map (some nb)] 62) = W1 := ⟨_, rfl⟩
 have HT1 := hide (show RAt w W1 R c nb S1 s from by
  refine ⟨?_, ?_, ?_, ?_, by omega, fun b hb => by rw [hS1] at hb; exact hb.2, by omega, by omega, hnc⟩
  ·rw [← hW1, ← hR]; exact heap_alloc_new w _
  ·rw [← hW1]; exact hat0.alloc _
  ·rw [← hW1]; exact (Only.refl c w).alloc _
  ·rw [← hW1]; exact hnm.alloc _)
 obtain ⟨b0, hb0⟩ : ∃ b, endsC s = b := ⟨_, rfl⟩
 obtain ⟨X, hX⟩ : ∃ X, factsL (([], !b0), s) = X := ⟨_, rfl⟩
 have hfs : factsC s = (X.1.1, endC X.2) := by unfold factsC; simp only; rw [hb0, hX]
 rw [hfs]
 have HX := hide hX
 have HLL := hide hl
 have HEN := hide (show Calls Tryz.prog 77 #[.pointer (some ⟨c, 0, none⟩)] W1 (Ret (.bool b0) W1) from hb0 ▸ cEnds HT1.out.cur)
 have r0 : W1.cell? ⟨R, 0, none⟩ = some (.pointer (some ⟨c, 0, none⟩)) := cell_of_row W1 R _ _ _ (0, 0) HT1.out.rdr
 have rl := HT1.out.rl
 have HRQ := hide hR
 clear h hat0 hS1 hfs hX hl hb0 hlt hnl
 go_enter Tryz.func33, Tryz.ntmps33
 go_wp2_with (first | (go_at_call 77; (with_reducible refine HEN.out.mono ?_); rintro e w' ⟨rfl, rfl⟩))
 try rw [hR]
 clear hW1 r0 rl HEN
 go_loopw [2, 3] (fun v mo wr => ∃ (A : Option Addr) (n k : Nat) (l : List Fact) (s' : Cur) (b : Bool), v = .slice A n k ∧ mo = .bool b ∧ l.length = n ∧ OwnL wr (R + 1) 42 (fun _ => False) (.slice A n k) l ∧ RAt w wr R c nb S1 s' ∧ factsL ((l, b), s') = X ∧ n + leftC s' + (if b = true then 1 else 0) ≤ 1099511627771) (fun _ mo wr => leftM c wr + moreV mo)
 case atStart => exact ⟨none, 0, 0, [], s, !b0, rfl, rfl, rfl, OwnL.nil_ _ _ _ _, HT1.out, HX.out, by have := HLL.out; split <;> omega⟩
 case round =>
  obtain ⟨A, n, k, l, s', b, rfl, rfl, hn, ho, ht, hx, hll⟩ := hrel
  have HO := hide ho; have HT := hide ht; have HXQ := hide hx; have HN := hide hn
  have HLX := hide hll
  have HLQ := hide (show n + leftC s' ≤ 1099511627771 from by revert hll; split <;> intro hll <;> omega)
  have HLE := hide ht.cur.leftM_
  have r0 : wr.cell? ⟨R, 0, none⟩ = some (.pointer (some ⟨c, 0, none⟩)) := cell_of_row wr R _ _ _ (0, 0) ht.rdr
  have r1 : wr.cell? ⟨R, 1, none⟩ = some (.map (some nb)) := cell_of_row wr R _ _ _ (0, 0) ht.rdr
  have rl := ht.rl
  clear ho ht hx hn hll
  cases b with
  | false =>
   have HE := hide (show X = ((l, false), s') from by rw [← HXQ.out]; exact factsL_stop rfl)
   have HED := hide (cEnd HT.out.cur)
   go_wp2_with (first | (go_at_call 78; (with_reducible refine HED.out.mono ?_); rintro e V6 ⟨rfl, hat, hon⟩; have HT9 := hide (HT.out.call hon hat); have HO9 := hide (HO.out.keep hon.size (fun _ hf => hf.elim) fun g hg => hon.block g (HO.out.below_ g hg).2 (by have := (HO.out.below_ g hg).1; have := HT.out.o1; omega)); clear hat hon))
   go_ret
   rw [HE.out]
   exact ⟨A, n, k, rfl, HO9.out.lower28 (by have := HRQ.out; omega), HT9.out.cur.moreS (fun b _ h => by rw [HS1.out] at h; exact h.1) HNS.out, HT9.out.only⟩
  | true =>
   have HLZ := hide (show n + leftC s' + 1 ≤ 1099511627771 from by have := HLX.out; simpa using this)
   clear HLX
   obtain ⟨q, hq⟩ : ∃ q, factC l s' = q := ⟨_, rfl⟩
   obtain ⟨b2, hb2⟩ : ∃ b, isC (.mk tComma) q.2 = b := ⟨_, rfl⟩
   have hgo : factG ((l, true), s') = some ((l ++ [q.1], b2), overC b2 q.2) := by
    unfold factG
    rw [if_pos rfl]
    simp only
    rw [hq, hb2]
   have HGO := hide (show factsL ((l ++ [q.1], b2), overC b2 q.2) = X from by rw [← HXQ.out, factsL_go hgo])
   have hdec := factG_dec _ _ hgo
   have HDEC := hide (show leftC (overC b2 q.2) + (if b2 = true then 1 else 0) < leftC s' + 1 from by unfold factM at hdec; simpa using hdec)
   have HQI := hide (show InI q.1.var ∧ InI q.1.loc.n from hq ▸ factC_in l s')
   have HFC := hide (show Calls Tryz.prog 80 #[rdV c nb, .slice A n k] wr (FactP S1 c q wr) from hq ▸ fact28_any wr S1 c nb s' HT.out.cur HT.out.nm HT.out.o6 (fun b => R < b) A n k l (HO.out.sl fun b _ h => by rcases h with h | h; exact h.elim; show R < b; omega) (by show ¬ R < c; have := HT.out.o1; omega) (by have := HLQ.out; omega))
   have HB2 := hide hb2
   clear hgo hdec hq hb2
   go_wp2_with (first
    | (go_at_call 80; (with_reducible refine HFC.out.mono ?_); rintro e V6 ⟨rfl, hat, hon⟩; have HT9 := hide (HT.out.call hon hat); have HO9 := hide (HO.out.keep hon.size (fun _ hf => hf.elim) fun g hg => hon.block g (HO.out.below_ g hg).2 (by have := (HO.out.below_ g hg).1; have := HT.out.o1; omega)); clear hat hon r0 r1 rl)
    | (at_builtin; refine wpList_push (α := Fact) V6 [.int .i64 q.1.var, .bool q.1.loc.slot, .int .i64 q.1.loc.n] 42 rfl (.tmp 12) (.tmp 16) 37 rfl (R + 1) 42 i0 _ 24 Tryz.underlying37 HI0.out HZ.out HZ1.out HZ2.out rfl (by decide) (fun _ => False) (fun _ => False) (.slice A n k) l q.1 rfl HO9.out V6.heap.size rfl rfl (Fact.mk_ HQI.out.1 HQI.out.2) (fun _ h => h) (fun _ _ h => h) (fun _ h => h.elim) (by have := HN.out; have := HLQ.out; omega) (by have := HN.out; have := HLQ.out; omega) (by have := HT9.out.rl; omega) ?_; intro v' W2 ho1 hgr h5; have HO1 := hide ho1; have HT10 := hide ((HT9.out.alloc (.cells #[.int .i64 q.1.var, .bool q.1.loc.slot, .int .i64 q.1.loc.n] 42)).grown hgr (fun g e => by have := (HO9.out.below_ g e).1; omega)); have r0 : W2.cell? ⟨R, 0, none⟩ = some (.pointer (some ⟨c, 0, none⟩)) := (cell_of_row W2 R _ _ _ (0, 0) HT10.out.rdr); have rl := HT10.out.rl; have HIS := hide (show Calls Tryz.prog 79 #[.pointer (some ⟨c, 0, none⟩), .string ⟨#[44]⟩] W2 (CurP S1 c W2 (overC b2 q.2) (.bool b2)) from (by have h := cIsM HT10.out.cur tComma; rw [HB2.out] at h; exact h)); clear ho1 hgr h5)
    | (go_at_call 79; (with_reducible refine HIS.out.mono ?_); rintro e V7 ⟨rfl, hat, hon⟩; have HT11 := hide (HT10.out.call hon hat); have HO11 := hide (HO1.out.keep hon.size (fun _ hf => hf.elim) fun g hg => hon.block g (HO1.out.below_ g hg).2 (by have := (HO1.out.below_ g hg).1; have := HT10.out.o1; omega)); clear hat hon r0 rl))
   obtain ⟨A', k', rfl⟩ := HO11.out.form
   have hl1 : (l ++ [q.1]).length = n + 1 := by rw [List.length_append, HN.out]; rfl
   rw [hl1] at HO11 ⊢
   have HL11 := hide HT11.out.cur.leftM_
   go_roundw
   case rel => exact ⟨A', n + 1, k', l ++ [q.1], overC b2 q.2, b2, rfl, rfl, hl1, HO11.out, HT11.out, HGO.out, by have h1 := HDEC.out; have h2 := HLZ.out; revert h1; cases b2 <;> simp <;> omega⟩
   case measure =>
    rw [HL11.out, HLE.out]
    have := HDEC.out
    cases b2
    ·show leftC _ + 0 < leftC s' + 1; simpa using this
    ·show leftC _ + 1 < leftC s' + 1; simpa using this
end Go.Proofs.YtppkanniefignaaGreatDoor
