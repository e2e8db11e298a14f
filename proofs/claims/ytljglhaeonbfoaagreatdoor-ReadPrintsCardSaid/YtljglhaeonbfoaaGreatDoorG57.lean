/- law04: walks: an instruction's line. Printed by gen_w4t.py. law04: walks: can a block be written? -/
import Derived.Test.YtljglhaeonbfoaaGreatDoorG27
import Derived.Test.YtljglhaeonbfoaaGreatDoorG56
import Derived.Test.YtljglhaeonbfoaaGreatDoorG32
import Derived.Deep.DeepCutAuto
import Derived.Test.YtljglhaeonbfoaaGreatDoorG28
import Derived.Test.YtljglhaeonbfoaaGreatDoorG25
set_option linter.unusedSimpArgs false
set_option linter.unusedVariables false
namespace Go.Proofs.YtljglhaeonbfoaaGreatDoor
open Go.RowKit
theorem info_any4 : (Tryz.prog.info? 20).map (fun i => (i.zero, i.size, i.bytes)) = some (some .nilIface, 1, 16) := by kernel_rfl
theorem okI_of {i : Ins} (h : InsR i) : OkI4 i := by
 obtain ⟨⟨o1, o2⟩, hm, hcall, hno, hdst, hdst0, ha, ha0, hb, hb0, himm, himm0⟩ := h
 have hv : ∀ n : Int, vOk n = true → InI n := fun n h => by have := vOk_in h; unfold InI; omega
 have z : ∀ n : Int, n = 0 → InI n := fun n h => by rw [h]; unfold InI; decide
 have d1 : InI i.dst := by
  by_cases e : i.op = 13
  ·by_cases e2 : i.dst = 0
   ·exact z _ e2
   ·exact hv _ ((hcall e).2.2.2.2.2.1 e2)
  ·by_cases e2 : i.op = 12
   ·exact z _ (hdst0 e2)
   ·exact hv _ (hdst e e2)
 have a1 : InI i.a := by
  by_cases e : i.op = 13
  ·exact z _ (hcall e).1
  ·by_cases e2 : i.op = 1
   ·exact z _ (ha0 e2)
   ·exact hv _ (ha e e2)
 have b1 : InI i.b := by
  by_cases e : i.op = 13
  ·exact z _ (hcall e).2.1
  ·by_cases e2 : i.op = 1 ∨ i.op = 11 ∨ i.op = 14
   ·exact z _ (hb0 e2)
   ·exact hv _ (hb (by omega) (by omega))
 have m1 : InI i.imm := by
  by_cases e : i.op = 13
  ·exact z _ (hcall e).2.2.1
  ·by_cases e2 : i.op = 1 ∨ i.op = 11 ∨ i.op = 12
   ·have := immOk_in (himm e2); unfold InI; omega
   ·exact z _ (himm0 (by omega) (by omega))
 have c1 : InI i.callee := by
  by_cases e : i.op = 13
  ·obtain ⟨_, _, _, h1, h2, _⟩ := hcall e; unfold InI; omega
  ·exact z _ (hno e).1
 exact ⟨by unfold InI; omega, d1, a1, b1, m1, c1, z _ hm⟩
theorem sl1S {W : World} {S : Nat → Prop} {x : Int} (g : Nat) (hg : g = W.heap.size) (hx : InI x) (hS : S g) : Sl (W.alloc (.cells #[.int .i64 x] 3)) S (some ⟨g, 0, none⟩) 1 1 [x] :=
 Sl.lit (S := fun _ => False) (us := [.int .i64 x]) hg (RepL.single ⟨rfl, hx⟩) rfl (by decide) (fun _ h => h.elim) hS
def NamedP : Post := fun v w => ∃ A, v = .slice A 9 9 ∧ Sl w (fun _ => True) A 9 9 opsB
theorem NamedP.stable_ {F : World → Prop} {mem : Bool} (hm : mem = true) : stable F mem NamedP := stable_mem hm fun _ _ u ⟨A, hv, h⟩ => ⟨A, hv, h.ext u⟩
def PtrQ4 (t : ByteArray) : Post := fun v w => ∃ b off, v = .pointer (some ⟨b, off, none⟩) ∧ b < w.heap.size ∧ w.cell? ⟨b, off, none⟩ = some (.string t)
theorem PtrQ4.stable_ {F : World → Prop} {t : ByteArray} {mem : Bool} (hm : mem = true) : stable F mem (PtrQ4 t) := stable_mem hm fun _ w u ⟨b, off, hv, hb, h⟩ => ⟨b, off, hv, by rw [size_ext]; omega, by rw [cell?_ext _ _ _ hb]; exact h⟩
def IfB4 (B : Nat) (us : List Value) : Post := fun v w => ∃ g, v = .iface 22 (.slice (some ⟨g, 0, none⟩) 2 2) ∧ B ≤ g ∧ w.heap[g]? = some (.cells us.toArray 3 (0, 0))
theorem IfB4.stable_ {F : World → Prop} {B : Nat} {us : List Value} {mem : Bool} (hm : mem = true) : stable F mem (IfB4 B us) :=
 stable_mem hm fun _ w u ⟨g, hv, hb, h⟩ => ⟨g, hv, hb, by rw [ext_block w u g (Array.getElem?_eq_some_iff.1 h).1]; exact h⟩
def PrB4 (B : Nat) (x : Value) (us : List Value) : Post := fun v w => ∃ g2 g, v = .slice (some ⟨g2, 0, none⟩) 2 2 ∧ B ≤ g2 ∧ B ≤ g ∧ w.heap[g2]? = some (.cells #[x, .iface 22 (.slice (some ⟨g, 0, none⟩) 2 2)] 20 (0, 0)) ∧ w.heap[g]? = some (.cells us.toArray 3 (0, 0))
theorem PrB4.stable_ {F : World → Prop} {B : Nat} {x : Value} {us : List Value} {mem : Bool} (hm : mem = true) : stable F mem (PrB4 B x us) :=
 stable_mem hm fun _ w u ⟨g2, g, hv, h1, h2, h3, h4⟩ => ⟨g2, g, hv, h1, h2, by rw [ext_block w u g2 (Array.getElem?_eq_some_iff.1 h3).1]; exact h3, by rw [ext_block w u g (Array.getElem?_eq_some_iff.1 h4).1]; exact h4⟩
theorem sl_row2 {W : World} {S : Nat → Prop} {g : Nat} {x y : Int} (h : W.heap[g]? = some (.cells #[.int .i64 x, .int .i64 y] 3 (0, 0))) (hx : InI x) (hy : InI y) (hS : S g) : Sl W S (some ⟨g, 0, none⟩) 2 2 [x, y] := by
 have hl := (Array.getElem?_eq_some_iff.1 h).1
 refine ⟨rfl, Nat.le_refl _, by unfold maxLen; decide, (fun h => by cases h), fun _ => ⟨g, 0, rfl, hl, hS, fun j z hj => ?_⟩⟩
 match j, hj with
 | 0, hj =>
  obtain rfl : x = z := Option.some.inj hj
  refine ⟨[.int .i64 x], ⟨rfl, hx⟩, fun i u hu => ?_⟩
  match i, hu with
  | 0, hu => obtain rfl := Option.some.inj hu; exact cell_of_row W g _ _ _ (0, 0) h
 | 1, hj =>
  obtain rfl : y = z := Option.some.inj hj
  refine ⟨[.int .i64 y], ⟨rfl, hy⟩, fun i u hu => ?_⟩
  match i, hu with
  | 0, hu => obtain rfl := Option.some.inj hu; exact cell_of_row W g _ _ _ (0, 0) h
theorem heap_new_g (W : World) (g : Nat) (hg : g = W.heap.size) (us : Array Value) (T : TypeId) : (W.alloc (.cells us T)).heap[g]? = some (.cells us T (0, 0)) := by
 subst hg
 exact heap_alloc_new W _
theorem ext_alloc_ext (W : World) (u : Ext) (o : Obj) : ∃ x : Ext, (W.ext u).alloc o = W.ext x := by
 obtain ⟨v, hv⟩ := ext_alloc (W.ext u) o
 rw [hv]
 exact ext_ext W u v
section
variable {P : Program} {ops : Array Oper} {F G0 : World → Prop} {Ws Ms : List Nat} {an : List (List Nat)} {Q : Act → World → Prop} {o : Oper} {rest : List Oper} {k : Nat} {a : Act} {H : List HeldP}
theorem flowG_outF (ms : List Bool) (c : Value) (hms : maskOf ops o H = ms)
  (h1 : ∀ w, F w → useH ms H a w fun a' => KnownAt P ops o a' c w) (h2 : FlowG P ops F G0 an Ws Ms Q rest (k + 1) (a.put o.dst c) H) : FlowG P ops F G0 an Ws Ms Q (o :: rest) k a H :=
 .inl ⟨c, fun w hw => hms ▸ h1 w hw.1, h2⟩
end
theorem cells8b {W : World} {M : Nat} {a b d e f g h i : Value} {T : TypeId} (hr : W.heap[M]? = some (.cells #[a, b, d, e, f, g, h, i] T (0, 0))) : W.cell? ⟨M, 0, none⟩ = some a ∧ W.cell? ⟨M, 1, none⟩ = some b ∧ W.cell? ⟨M, 2, none⟩ = some d ∧ W.cell? ⟨M, 3, none⟩ = some e ∧ W.cell? ⟨M, 4, none⟩ = some f ∧ W.cell? ⟨M, 5, none⟩ = some g ∧ W.cell? ⟨M, 6, none⟩ = some h ∧ W.cell? ⟨M, 7, none⟩ = some i :=
 ⟨cell_of_row W M _ _ _ (0, 0) hr, cell_of_row W M _ _ _ (0, 0) hr, cell_of_row W M _ _ _ (0, 0) hr, cell_of_row W M _ _ _ (0, 0) hr, cell_of_row W M _ _ _ (0, 0) hr, cell_of_row W M _ _ _ (0, 0) hr, cell_of_row W M _ _ _ (0, 0) hr, cell_of_row W M _ _ _ (0, 0) hr⟩
theorem insWs_ne (i : Ins) : insWs i ≠ [] := by
 unfold insWs
 repeat (split <;> try simp)
set_option maxRecDepth 100000 in
set_option maxHeartbeats 32000000 in
theorem lineIns_any (i : Ins) (w : World) (S : Nat → Prop) (A : Option Addr) (n c : Nat) (h : InsR i) (hs : Sl w S A n c i.args) (hv : VarsP w) : Calls Tryz.prog 28 #[insV i A n c] w (RetX (.string (lineX (insWs i))) w) := by
 obtain ⟨iA, hi, hz, hz1, hz2⟩ := info_parts info_any4
 have HA0 := hide hi; have HAZ := hide hz; have HA1 := hide hz1; have HA2 := hide hz2
 clear hi hz hz1 hz2
 have hw := insP4_words h
 have hne := insWs_ne i
 have hok := okI_of h
 have hop := h.op
 have han : n ≤ 8 := by
  rw [← hs.len]
  by_cases e : i.op = 13
  ·exact (h.call e).2.2.2.2.2.2.1
  ·rw [(h.no e).2]; exact Nat.zero_le _
 clear h
 obtain ⟨W0, hW0⟩ : ∃ W, w.alloc (.cells #[.int .i64 i.op, .int .i64 i.dst, .int .i64 i.a, .int .i64 i.b, .int .i64 i.imm, .int .i64 i.callee, .slice A n c, .int .i64 i.many] 45) = W := ⟨_, rfl⟩
 obtain ⟨C, hC⟩ : ∃ C, w.heap.size = C := ⟨_, rfl⟩
 have HRO := hide (show W0.heap[C]? = some (.cells #[.int .i64 i.op, .int .i64 i.dst, .int .i64 i.a, .int .i64 i.b, .int .i64 i.imm, .int .i64 i.callee, .slice A n c, .int .i64 i.many] 45 (0, 0)) from by rw [← hW0, ← hC]; exact heap_alloc_new w _)
 have HCB := hide (show C < W0.heap.size from (Array.getElem?_eq_some_iff.1 HRO.out).1)
 have HB0 := hide (show Below w.heap.size w W0 from by rw [← hW0]; exact (Below.refl _ _).alloc (Nat.le_refl _) _)
 have HBL := hide (show w.heap.size ≤ W0.heap.size from HB0.out.size)
 have HV := hide (show VarsP W0 from by rw [← hW0]; exact hv.alloc _)
 have HSL := hide (show Sl W0 (fun b => b < C) A n c i.args from by rw [← hW0]; exact (hs.more fun b hb _ => show b < C by omega).alloc _)
 obtain ⟨T, hT⟩ : ∃ T, lineX (insWs i) = T := ⟨_, rfl⟩
 rw [hT]
 have HIN := hide hok
 have HCQ := hide hC
 have HOP := hide hop
 obtain ⟨m0, hm0⟩ : ∃ m, (leftP i.dst).length = m := ⟨_, rfl⟩
 have HM := hide hm0
 have hm2 : m0 ≤ 2 := by rw [← hm0]; unfold leftP; split <;> simp
 obtain ⟨L0, hL0⟩ : ∃ L, leftP i.dst = L := ⟨_, rfl⟩
 rw [hL0] at HM
 have HL := hide hL0
 obtain ⟨c0, c1, c2, c3, c4, c5, c6, c7⟩ := cells8b HRO.out
 have cl := HCB.out
 obtain ⟨b6, hb6⟩ : ∃ b, (i.dst != 0) = b := ⟨_, rfl⟩
 have HB6 := hide hb6
 have HWT := hide (show ∀ ys, insP4 i = L0 ++ ys → allW (L0 ++ ys) = (insWs i).map (·.text) from fun ys e => e ▸ hw)
 have HW := hide hw; have HNE := hide hne; have HT := hide hT; have HAN := hide han
 clear hs hv hok hop hm0 hL0 hw hne hT han
 go_enter Tryz.func28, Tryz.ntmps28
 go_upto_if 6 with (fail)
 go_cut [3] from 7 to 14 (fun v wc => ∃ (AL : Option Addr) (cL : Nat) (SL : Nat → Prop), v = .slice AL m0 cL ∧ OwnL wc W0.heap.size 20 SL (.slice AL m0 cL) L0 ∧ (∀ b, SL b → W0.heap.size ≤ b ∧ b < wc.heap.size) ∧ Below W0.heap.size W0 wc)
 case first =>
  cases b6 with
  | false =>
   have hL : L0 = [] := by rw [← HL.out]; unfold leftP; rw [if_neg (by have := HB6.out; simpa using this)]
   have hm : m0 = 0 := by rw [← HM.out, hL]; rfl
   go_wp2_with fail
   go_meet
   rw [hm, hL]
   exact ⟨none, 0, fun _ => False, rfl, OwnL.nil_ _ _ _ _, fun _ h => h.elim, Below.refl _ _⟩
  | true =>
   have hL : L0 = [.vars [i.dst], .str tLeft] := by rw [← HL.out]; unfold leftP; rw [if_pos (by have := HB6.out; simpa using this)]
   have hm : m0 = 2 := by rw [← HM.out, hL]; rfl
   have HLQ := hide hL
   have HMQ := hide hm
   clear hL hm
   obtain ⟨Wl, hWl⟩ : ∃ W, (W0.alloc (.cells #[.int .i64 i.dst] 3)).alloc (.cells #[.iface 22 (.slice (some ⟨W0.heap.size, 0, none⟩) 1 1), .iface 9 (.string ⟨#[226, 134, 144]⟩)] 20) = W := ⟨_, rfl⟩
   have HWL := hide hWl
   have hrow : Wl.heap[W0.heap.size + 1]? = some (.cells #[.iface 22 (.slice (some ⟨W0.heap.size, 0, none⟩) 1 1), .iface 9 (.string ⟨#[226, 134, 144]⟩)] 20 (0, 0)) := by
    rw [← hWl]; have h := heap_alloc_new (W0.alloc (.cells #[.int .i64 i.dst] 3)) (.cells #[.iface 22 (.slice (some ⟨W0.heap.size, 0, none⟩) 1 1), .iface 9 (.string ⟨#[226, 134, 144]⟩)] 20 (0, 0)); simpa using h
   have HRL := hide hrow
   have hzl : Wl.heap.size = W0.heap.size + 2 := by rw [← hWl]; simp
   have HZL := hide hzl
   have HRP := hide (show RepL Wl (fun b => b = W0.heap.size) [Pt4.vars [i.dst], .str tLeft] [.iface 22 (.slice (some ⟨W0.heap.size, 0, none⟩) 1 1), .iface 9 (.string ⟨#[226, 134, 144]⟩)] from by
    rw [← hWl]
    exact repP4 (pVars4 ((sl1S (S := fun b => b = W0.heap.size) _ rfl HIN.out.2.1 rfl).alloc _) (by decide)) (repP4 (pStr4 (by decide)) repN4))
   clear hrow hzl
   go_wp2_with (at_builtin; refine wpList_push_at (α := Pt4) Wl rfl (.tmp 7) (.tmp 13) 95 rfl W0.heap.size 20 iA _ 16 Tryz.underlying95 HA0.out HAZ.out HA1.out HA2.out rfl (by decide) (fun _ => False) (fun b => b = W0.heap.size) (.slice none 0 0) [] [.vars [i.dst], .str tLeft] rfl (OwnL.nil_ _ _ _ _) ⟨W0.heap.size + 1, 0, none⟩ 2 2 [.iface 22 (.slice (some ⟨W0.heap.size, 0, none⟩) 1 1), .iface 9 (.string ⟨#[226, 134, 144]⟩)] rfl rfl HRP.out (fun j u hj => lit_news (us := [.iface 22 (.slice (some ⟨W0.heap.size, 0, none⟩) 1 1), .iface 9 (.string ⟨#[226, 134, 144]⟩)]) HRL.out j u hj) (fun _ _ h => h.elim) (fun _ h => by simp [Value.ownBlock] at h) (fun b hb => by have := HZL.out; omega) (by unfold maxLen; decide) (by decide) (by have := HZL.out; omega) ?_; intro v' w' ho hgr h5; obtain ⟨A', c', hv'⟩ := ho.form; subst hv'; have HO := hide ho; have HG := hide hgr; clear ho hgr h5)
   go_meet
   rw [HLQ.out, HMQ.out]
   exact ⟨A', c', _, rfl, HO.out, fun b hb => by have := HG.out.size; have := HZL.out; omega, ((by rw [← HWL.out]; exact ((Below.refl _ _).alloc (Nat.le_refl _) _).alloc (by simp) _ : Below W0.heap.size W0 Wl)).grown HG.out (by have := HZL.out; omega) (fun g e => by simp [Value.ownBlock] at e)⟩
 case rest =>
  obtain ⟨AL, cL, SL, rfl, ho, hsl, hbw⟩ := hcut
  obtain ⟨Wc, hWc⟩ : ∃ W, W = wc := ⟨_, rfl⟩
  subst hWc
  have HO := hide ho; have HSS := hide hsl; have HBW := hide hbw
  clear ho hsl hbw c0 c1 c2 c3 c4 c5 c6 c7 cl hW0
  have HRC := hide ((HBW.out.block C HCB.out).trans HRO.out)
  obtain ⟨c0, c1, c2, c3, c4, c5, c6, c7⟩ := cells8b HRC.out
  have cl : C < Wc.heap.size := (Array.getElem?_eq_some_iff.1 HRC.out).1
  have HVC := hide (HV.out.below HBW.out HV.out.v.sz)
  have HSC := hide (show Sl Wc (fun b => b < C) A n c i.args from HSL.out.keep HBW.out.size fun b hb hl => HBW.out.block b hl)
  obtain ⟨E, hE⟩ : ∃ E, Wc.heap.size = E := ⟨_, rfl⟩
  have HEQ := hide hE
  have cE : C < E := by omega
  obtain ⟨S2, hS2⟩ : ∃ S2 : Nat → Prop, S2 = fun b => SL b ∨ b < C ∨ b = E := ⟨_, rfl⟩
  have HS2 := hide hS2
  have HAP := hide (show ∀ x, (Value.slice AL m0 cL).ownBlock = some x → ¬ S2 x from fun x hx hh => by
   rw [hS2] at hh
   have h1 := HO.out.below_ x hx
   rcases hh with hh | hh | hh
   ·obtain ⟨_, _, _, h3⟩ := HO.out
    exact h3 x hx hh
   ·have := HCB.out; omega
   ·omega)
  have HNW := hide (show ∀ (W : World), Wc.heap.size < W.heap.size → ∀ b, S2 b → b < W.heap.size from fun W hW b hh => by
   rw [hS2] at hh
   rcases hh with hh | hh | hh
   ·have := (HSS.out b hh).2; omega
   ·omega
   ·omega)
  have HROW := hide (fun (W : World) (A' : Option Addr) (k c' : Nat) (ys : List Pt4) (S' : Nat → Prop) (ho : OwnL W W0.heap.size 20 S' (.slice A' k c') (L0 ++ ys)) (hk : k ≤ 64) (he : insP4 i = L0 ++ ys) (hv : VarsP W) => show Calls Tryz.prog 27 #[.slice A' k c'] W (RetX (.string T) W) from by
   have hw := HWT.out ys he
   have h := row4_any W (fun _ => True) A' k c' (L0 ++ ys) (ho.sl fun _ _ _ => trivial) hk (by rw [hw]; simpa using HNE.out) hv
   rw [lineX_parts hw, HT.out] at h
   exact h)
  clear hS2
  by_cases k1 : i.op = 1
  ·have hp : insP4 i = leftP i.dst ++ [Pt4.str tConst, .int i.imm] := if_pos k1
   rw [HL.out] at hp
   have HP := hide hp
   have hb : (i.op == 1) = true := by simpa using k1
   clear k1 hp
   obtain ⟨Wl, hWl⟩ : ∃ W, Wc.alloc (.cells #[.iface 9 (.string ⟨#[99, 111, 110, 115, 116]⟩), .iface 3 (.int .i64 i.imm)] 20) = W := ⟨_, rfl⟩
   have HZL := hide (show Wl.heap.size = E + 1 from by rw [← hWl, ← hE]; simp)
   have HRL := hide (show Wl.heap[E]? = some (.cells #[.iface 9 (.string ⟨#[99, 111, 110, 115, 116]⟩), .iface 3 (.int .i64 i.imm)] 20 (0, 0)) from by have h := heap_alloc_new Wc (.cells #[.iface 9 (.string ⟨#[99, 111, 110, 115, 116]⟩), .iface 3 (.int .i64 i.imm)] 20 (0, 0)); rw [show Wc.heap.size = E from by first | exact hE | (rw [← hE]; simp)] at h; rw [← hWl]; exact h)
   have HRP := hide (show RepL Wl S2 [Pt4.str tConst, .int i.imm] [.iface 9 (.string ⟨#[99, 111, 110, 115, 116]⟩), .iface 3 (.int .i64 i.imm)] from by
    rw [← hWl]
    exact repP4 (pStr4 (by decide)) (repP4 (pInt4 HIN.out.2.2.2.2.1) repN4))
   have HOL := hide (show OwnL Wl W0.heap.size 20 SL (.slice AL m0 cL) L0 from by rw [← hWl]; exact (HO.out.alloc _))
   have HBLL := hide (show Below W0.heap.size W0 Wl from by rw [← hWl]; exact HBW.out.alloc (by have := HBW.out.size; omega) _)
   have HWLQ := hide hWl
   have hlen : (L0 ++ [Pt4.str tConst, .int i.imm]).length = m0 + 2 := by rw [List.length_append, HM.out]; rfl
   have HLN := hide hlen
   clear hlen
   skip
   go_wp2_with (first | (at_builtin; refine wpList_push_at (α := Pt4) Wl rfl (.tmp 19) (.tmp 24) 95 rfl W0.heap.size 20 iA _ 16 Tryz.underlying95 HA0.out HAZ.out HA1.out HA2.out rfl (by decide) SL S2 (.slice AL m0 cL) L0 [Pt4.str tConst, .int i.imm] rfl HOL.out ⟨E, 0, none⟩ 2 2 [.iface 9 (.string ⟨#[99, 111, 110, 115, 116]⟩), .iface 3 (.int .i64 i.imm)] rfl rfl HRP.out (fun j u hj => lit_news (us := [.iface 9 (.string ⟨#[99, 111, 110, 115, 116]⟩), .iface 3 (.int .i64 i.imm)]) HRL.out j u hj) (fun b _ h => by rw [HS2.out]; exact .inl h) HAP.out (HNW.out Wl (by have := HZL.out; have := HEQ.out; omega)) (by rw [HM.out]; unfold maxLen; omega) (by rw [HM.out]; omega) (by have := HBLL.out.size; omega) ?_; intro v' w' ho hgr h5; obtain ⟨A', c', hv'⟩ := ho.form; rw [HLN.out] at hv'; subst hv'; have HO2 := hide ho; have HG := hide hgr; have HB2 := hide (HBLL.out.grown hgr HBLL.out.size (fun g e => (HOL.out.below_ g e).1)); clear ho hgr h5) | (go_at_call 27; (with_reducible refine (HROW.out _ _ _ _ [Pt4.str tConst, .int i.imm] _ HO2.out (by omega) HP.out (HV.out.below HB2.out HV.out.v.sz)).mono ?_); rintro e _ ⟨rfl, u, rfl⟩))
   go_ret
   exact ⟨rfl, (HB0.out.trans ((HB2.out.mono HBL.out).ext (by have := HBL.out; have := HB2.out.size; omega) u)).to_ext⟩
  have b1 : (i.op == 1) = false := by simpa using k1
  by_cases k2 : i.op = 11
  ·have hp : insP4 i = leftP i.dst ++ [Pt4.str tLoad, .vars [i.a], .int i.imm] := (if_neg k1).trans <| if_pos k2
   rw [HL.out] at hp
   have HP := hide hp
   have hb : (i.op == 11) = true := by simpa using k2
   clear k1 k2 hp
   obtain ⟨Wl, hWl⟩ : ∃ W, (Wc.alloc (.cells #[.int .i64 i.a] 3)).alloc (.cells #[.iface 9 (.string ⟨#[108, 111, 97, 100]⟩), .iface 22 (.slice (some ⟨E, 0, none⟩) 1 1), .iface 3 (.int .i64 i.imm)] 20) = W := ⟨_, rfl⟩
   have HZL := hide (show Wl.heap.size = E + 2 from by rw [← hWl, ← hE]; simp)
   have HRL := hide (show Wl.heap[E + 1]? = some (.cells #[.iface 9 (.string ⟨#[108, 111, 97, 100]⟩), .iface 22 (.slice (some ⟨E, 0, none⟩) 1 1), .iface 3 (.int .i64 i.imm)] 20 (0, 0)) from by have h := heap_alloc_new (Wc.alloc (.cells #[.int .i64 i.a] 3)) (.cells #[.iface 9 (.string ⟨#[108, 111, 97, 100]⟩), .iface 22 (.slice (some ⟨E, 0, none⟩) 1 1), .iface 3 (.int .i64 i.imm)] 20 (0, 0)); rw [show (Wc.alloc (.cells #[.int .i64 i.a] 3)).heap.size = E + 1 from by first | exact hE | (rw [← hE]; simp)] at h; rw [← hWl]; exact h)
   have HRP := hide (show RepL Wl S2 [Pt4.str tLoad, .vars [i.a], .int i.imm] [.iface 9 (.string ⟨#[108, 111, 97, 100]⟩), .iface 22 (.slice (some ⟨E, 0, none⟩) 1 1), .iface 3 (.int .i64 i.imm)] from by
    rw [← hWl]
    exact repP4 (pStr4 (by decide)) (repP4 (pVars4 ((sl1S (S := S2) (x := i.a) E hE.symm HIN.out.2.2.1 (by rw [HS2.out]; exact .inr (.inr rfl))).alloc _) (by decide)) (repP4 (pInt4 HIN.out.2.2.2.2.1) repN4)))
   have HOL := hide (show OwnL Wl W0.heap.size 20 SL (.slice AL m0 cL) L0 from by rw [← hWl]; exact (HO.out.alloc _).alloc _)
   have HBLL := hide (show Below W0.heap.size W0 Wl from by rw [← hWl]; exact (HBW.out.alloc (by have := HBW.out.size; omega) _).alloc (by have := HBW.out.size; simp; omega) _)
   have HWLQ := hide hWl
   have hlen : (L0 ++ [Pt4.str tLoad, .vars [i.a], .int i.imm]).length = m0 + 3 := by rw [List.length_append, HM.out]; rfl
   have HLN := hide hlen
   clear hlen
   skip
   go_wp2_with (first | (at_builtin; refine wpList_push_at (α := Pt4) Wl rfl (.tmp 29) (.tmp 38) 95 rfl W0.heap.size 20 iA _ 16 Tryz.underlying95 HA0.out HAZ.out HA1.out HA2.out rfl (by decide) SL S2 (.slice AL m0 cL) L0 [Pt4.str tLoad, .vars [i.a], .int i.imm] rfl HOL.out ⟨E + 1, 0, none⟩ 3 3 [.iface 9 (.string ⟨#[108, 111, 97, 100]⟩), .iface 22 (.slice (some ⟨E, 0, none⟩) 1 1), .iface 3 (.int .i64 i.imm)] rfl rfl HRP.out (fun j u hj => lit_news (us := [.iface 9 (.string ⟨#[108, 111, 97, 100]⟩), .iface 22 (.slice (some ⟨E, 0, none⟩) 1 1), .iface 3 (.int .i64 i.imm)]) HRL.out j u hj) (fun b _ h => by rw [HS2.out]; exact .inl h) HAP.out (HNW.out Wl (by have := HZL.out; have := HEQ.out; omega)) (by rw [HM.out]; unfold maxLen; omega) (by rw [HM.out]; omega) (by have := HBLL.out.size; omega) ?_; intro v' w' ho hgr h5; obtain ⟨A', c', hv'⟩ := ho.form; rw [HLN.out] at hv'; subst hv'; have HO2 := hide ho; have HG := hide hgr; have HB2 := hide (HBLL.out.grown hgr HBLL.out.size (fun g e => (HOL.out.below_ g e).1)); clear ho hgr h5) | (go_at_call 27; (with_reducible refine (HROW.out _ _ _ _ [Pt4.str tLoad, .vars [i.a], .int i.imm] _ HO2.out (by omega) HP.out (HV.out.below HB2.out HV.out.v.sz)).mono ?_); rintro e _ ⟨rfl, u, rfl⟩))
   go_ret
   exact ⟨rfl, (HB0.out.trans ((HB2.out.mono HBL.out).ext (by have := HBL.out; have := HB2.out.size; omega) u)).to_ext⟩
  have b11 : (i.op == 11) = false := by simpa using k2
  by_cases k3 : i.op = 12
  ·have hp : insP4 i = [.str tStore, .vars [i.a], .int i.imm, .vars [i.b]] := (if_neg k1).trans <| (if_neg k2).trans <| if_pos k3
   have HR := hide (row4_lit ((Wc.alloc (.cells #[.int .i64 i.a] 3)).alloc (.cells #[.int .i64 i.b] 3)) (E + 2) (by rw [← hE]; simp) (fun _ => True) _ [.iface 9 (.string ⟨#[115, 116, 111, 114, 101]⟩), .iface 22 (.slice (some ⟨E, 0, none⟩) 1 1), .iface 3 (.int .i64 i.imm), .iface 22 (.slice (some ⟨E + 1, 0, none⟩) 1 1)] 4 rfl (repP4 (pStr4 (by decide)) (repP4 (pVars4 ((sl1 E hE.symm HIN.out.2.2.1).alloc _) (by decide)) (repP4 (pInt4 HIN.out.2.2.2.2.1) (repP4 (pVars4 (sl1 (E + 1) (by rw [← hE]; simp) HIN.out.2.2.2.1) (by decide)) repN4)))) (by decide) ((HVC.out.alloc _).alloc _) HNE.out (hp ▸ HW.out))
   rw [HT.out] at HR
   have hb : (i.op == 12) = true := by simpa using k3
   clear k1 k2 k3 hp
   go_wp2_with (go_at_call 27; (with_reducible refine HR.out.mono ?_); rintro e _ ⟨rfl, u, rfl⟩)
   go_ret
   exact ⟨rfl, (HB0.out.trans ((((HBW.out.mono HBL.out).alloc (by have := HBL.out; have := HBW.out.size; omega) _).alloc (by have := HBL.out; have := HBW.out.size; simp; omega) _).alloc (by have := HBL.out; have := HBW.out.size; simp; omega) _ |>.ext (by have := HBL.out; have := HBW.out.size; simp; omega) u)).to_ext⟩
  have b12 : (i.op == 12) = false := by simpa using k3
  by_cases k4 : i.op = 13
  ·have hp : insP4 i = leftP i.dst ++ [Pt4.str tCall, .int i.callee, .vars i.args] := (if_neg k1).trans <| (if_neg k2).trans <| (if_neg k3).trans <| if_pos k4
   rw [HL.out] at hp
   have HP := hide hp
   have hb : (i.op == 13) = true := by simpa using k4
   clear k1 k2 k3 k4 hp
   obtain ⟨Wl, hWl⟩ : ∃ W, Wc.alloc (.cells #[.iface 9 (.string ⟨#[99, 97, 108, 108]⟩), .iface 3 (.int .i64 i.callee), .iface 22 (.slice A n c)] 20) = W := ⟨_, rfl⟩
   have HZL := hide (show Wl.heap.size = E + 1 from by rw [← hWl, ← hE]; simp)
   have HRL := hide (show Wl.heap[E]? = some (.cells #[.iface 9 (.string ⟨#[99, 97, 108, 108]⟩), .iface 3 (.int .i64 i.callee), .iface 22 (.slice A n c)] 20 (0, 0)) from by have h := heap_alloc_new Wc (.cells #[.iface 9 (.string ⟨#[99, 97, 108, 108]⟩), .iface 3 (.int .i64 i.callee), .iface 22 (.slice A n c)] 20 (0, 0)); rw [show Wc.heap.size = E from by first | exact hE | (rw [← hE]; simp)] at h; rw [← hWl]; exact h)
   have HRP := hide (show RepL Wl S2 [Pt4.str tCall, .int i.callee, .vars i.args] [.iface 9 (.string ⟨#[99, 97, 108, 108]⟩), .iface 3 (.int .i64 i.callee), .iface 22 (.slice A n c)] from by
    rw [← hWl]
    exact repP4 (pStr4 (by decide)) (repP4 (pInt4 HIN.out.2.2.2.2.2.1) (repP4 (pVars4 ((HSC.out.more fun b _ hb => by rw [HS2.out]; exact .inr (.inl hb)).alloc _) (by have := HAN.out; omega)) repN4)))
   have HOL := hide (show OwnL Wl W0.heap.size 20 SL (.slice AL m0 cL) L0 from by rw [← hWl]; exact (HO.out.alloc _))
   have HBLL := hide (show Below W0.heap.size W0 Wl from by rw [← hWl]; exact HBW.out.alloc (by have := HBW.out.size; omega) _)
   have HWLQ := hide hWl
   have hlen : (L0 ++ [Pt4.str tCall, .int i.callee, .vars i.args]).length = m0 + 3 := by rw [List.length_append, HM.out]; rfl
   have HLN := hide hlen
   clear hlen
   skip
   go_wp2_with (first | (at_builtin; refine wpList_push_at (α := Pt4) Wl rfl (.tmp 59) (.tmp 67) 95 rfl W0.heap.size 20 iA _ 16 Tryz.underlying95 HA0.out HAZ.out HA1.out HA2.out rfl (by decide) SL S2 (.slice AL m0 cL) L0 [Pt4.str tCall, .int i.callee, .vars i.args] rfl HOL.out ⟨E, 0, none⟩ 3 3 [.iface 9 (.string ⟨#[99, 97, 108, 108]⟩), .iface 3 (.int .i64 i.callee), .iface 22 (.slice A n c)] rfl rfl HRP.out (fun j u hj => lit_news (us := [.iface 9 (.string ⟨#[99, 97, 108, 108]⟩), .iface 3 (.int .i64 i.callee), .iface 22 (.slice A n c)]) HRL.out j u hj) (fun b _ h => by rw [HS2.out]; exact .inl h) HAP.out (HNW.out Wl (by have := HZL.out; have := HEQ.out; omega)) (by rw [HM.out]; unfold maxLen; omega) (by rw [HM.out]; omega) (by have := HBLL.out.size; omega) ?_; intro v' w' ho hgr h5; obtain ⟨A', c', hv'⟩ := ho.form; rw [HLN.out] at hv'; subst hv'; have HO2 := hide ho; have HG := hide hgr; have HB2 := hide (HBLL.out.grown hgr HBLL.out.size (fun g e => (HOL.out.below_ g e).1)); clear ho hgr h5) | (go_at_call 27; (with_reducible refine (HROW.out _ _ _ _ [Pt4.str tCall, .int i.callee, .vars i.args] _ HO2.out (by omega) HP.out (HV.out.below HB2.out HV.out.v.sz)).mono ?_); rintro e _ ⟨rfl, u, rfl⟩))
   go_ret
   exact ⟨rfl, (HB0.out.trans ((HB2.out.mono HBL.out).ext (by have := HBL.out; have := HB2.out.size; omega) u)).to_ext⟩
  have b13 : (i.op == 13) = false := by simpa using k4
  by_cases k5 : i.op = 14
  ·have hp : insP4 i = leftP i.dst ++ [Pt4.vars [i.a]] := (if_neg k1).trans <| (if_neg k2).trans <| (if_neg k3).trans <| (if_neg k4).trans <| if_pos k5
   rw [HL.out] at hp
   have HP := hide hp
   have hb : (i.op == 14) = true := by simpa using k5
   clear k1 k2 k3 k4 k5 hp
   obtain ⟨Wl, hWl⟩ : ∃ W, (Wc.alloc (.cells #[.int .i64 i.a] 3)).alloc (.cells #[.iface 22 (.slice (some ⟨E, 0, none⟩) 1 1)] 20) = W := ⟨_, rfl⟩
   have HZL := hide (show Wl.heap.size = E + 2 from by rw [← hWl, ← hE]; simp)
   have HRL := hide (show Wl.heap[E + 1]? = some (.cells #[.iface 22 (.slice (some ⟨E, 0, none⟩) 1 1)] 20 (0, 0)) from by have h := heap_alloc_new (Wc.alloc (.cells #[.int .i64 i.a] 3)) (.cells #[.iface 22 (.slice (some ⟨E, 0, none⟩) 1 1)] 20 (0, 0)); rw [show (Wc.alloc (.cells #[.int .i64 i.a] 3)).heap.size = E + 1 from by first | exact hE | (rw [← hE]; simp)] at h; rw [← hWl]; exact h)
   have HRP := hide (show RepL Wl S2 [Pt4.vars [i.a]] [.iface 22 (.slice (some ⟨E, 0, none⟩) 1 1)] from by
    rw [← hWl]
    exact repP4 (pVars4 ((sl1S (S := S2) (x := i.a) E hE.symm HIN.out.2.2.1 (by rw [HS2.out]; exact .inr (.inr rfl))).alloc _) (by decide)) repN4)
   have HOL := hide (show OwnL Wl W0.heap.size 20 SL (.slice AL m0 cL) L0 from by rw [← hWl]; exact (HO.out.alloc _).alloc _)
   have HBLL := hide (show Below W0.heap.size W0 Wl from by rw [← hWl]; exact (HBW.out.alloc (by have := HBW.out.size; omega) _).alloc (by have := HBW.out.size; simp; omega) _)
   have HWLQ := hide hWl
   have hlen : (L0 ++ [Pt4.vars [i.a]]).length = m0 + 1 := by rw [List.length_append, HM.out]; rfl
   have HLN := hide hlen
   clear hlen
   skip
   go_wp2_with (first | (at_builtin; refine wpList_push_at (α := Pt4) Wl rfl (.tmp 72) (.tmp 77) 95 rfl W0.heap.size 20 iA _ 16 Tryz.underlying95 HA0.out HAZ.out HA1.out HA2.out rfl (by decide) SL S2 (.slice AL m0 cL) L0 [Pt4.vars [i.a]] rfl HOL.out ⟨E + 1, 0, none⟩ 1 1 [.iface 22 (.slice (some ⟨E, 0, none⟩) 1 1)] rfl rfl HRP.out (fun j u hj => lit_news (us := [.iface 22 (.slice (some ⟨E, 0, none⟩) 1 1)]) HRL.out j u hj) (fun b _ h => by rw [HS2.out]; exact .inl h) HAP.out (HNW.out Wl (by have := HZL.out; have := HEQ.out; omega)) (by rw [HM.out]; unfold maxLen; omega) (by rw [HM.out]; omega) (by have := HBLL.out.size; omega) ?_; intro v' w' ho hgr h5; obtain ⟨A', c', hv'⟩ := ho.form; rw [HLN.out] at hv'; subst hv'; have HO2 := hide ho; have HG := hide hgr; have HB2 := hide (HBLL.out.grown hgr HBLL.out.size (fun g e => (HOL.out.below_ g e).1)); clear ho hgr h5) | (go_at_call 27; (with_reducible refine (HROW.out _ _ _ _ [Pt4.vars [i.a]] _ HO2.out (by omega) HP.out (HV.out.below HB2.out HV.out.v.sz)).mono ?_); rintro e _ ⟨rfl, u, rfl⟩))
   go_ret
   exact ⟨rfl, (HB0.out.trans ((HB2.out.mono HBL.out).ext (by have := HBL.out; have := HB2.out.size; omega) u)).to_ext⟩
  have b14 : (i.op == 14) = false := by simpa using k5
  have hp : insP4 i = leftP i.dst ++ [.str (opT i.op), .vars [i.a, i.b]] := (if_neg k1).trans <| (if_neg k2).trans <| (if_neg k3).trans <| (if_neg k4).trans (if_neg k5)
  rw [HL.out] at hp
  have HP := hide hp
  have hop2 : 2 ≤ i.op ∧ i.op ≤ 10 := by have := HOP.out; omega
  obtain ⟨ko, hko⟩ : ∃ ko : Nat, i.op - 2 = (ko : Int) := ⟨(i.op - 2).toNat, by omega⟩
  have hk9 : ko < 9 := by omega
  have hk9i : (ko : Int) < 9 := by omega
  have HOT := hide (show opsB[ko]? = some (opT i.op) from by
   unfold opT
   rw [show i.op.toNat - 2 = ko from by omega]
   have : ko < opsB.length := hk9
   rw [List.getD_eq_getElem?_getD, List.getElem?_eq_getElem this]
   rfl)
  have HOS := hide (show (opT i.op).size ≤ 1024 from by
   have h := HOT.out
   have h2 : ∀ t ∈ opsB, t.size ≤ 1024 := by decide
   exact h2 _ (List.mem_of_getElem? h))
  generalize hot : opT i.op = ot at HOT HOS HP
  have HOTQ := hide hot
  clear k1 k2 k3 k4 k5 hp hop2 hot
  have hkw : IntKind.i64.wrap (ko : Int) = (ko : Int) := IntWalk.i64_in _ (by omega)
  go_wp2_with fail
  refine wp_region_G_tail (extF Wc) (extF Wc) [] [1, 5, 12, 13, 14] 15 (by kernel_rfl) rfl (by kernel_rfl) (by kernel_rfl) (fun _ u ⟨x, hx⟩ => by rw [hx]; exact ext_ext _ x u) (fun _ u ⟨x, hx⟩ => by rw [hx]; exact ext_ext _ x u) (ext_drew Wc) (ext_drew Wc) ?_
  simp only [List.take_succ_cons, List.take_zero, List.drop_succ_cons, List.drop_zero]
  repeat (refine flowG_known (by kernel_rfl) (fun K hK => ?_); go_simp; (first | (refine hK _ ?_; clear hK K) | (apply Exists.intro; refine ⟨fun w' => ?_, hK _ ?_⟩; (fail); clear hK K)))
  refine flowG_keepF [] NamedP (by kernel_rfl) (NamedP.stable_ rfl) (fun W' hW' => ?_) ?_
  ·try simp only [List.nil_append, List.cons_append, useH_f, useH_t, useH_nil]
   obtain ⟨u, rfl⟩ := hW'
   go_simp
   refine (named_any _).mono ?_
   rintro e _ ⟨A1, rfl, hs, u2, rfl⟩
   exact ⟨_, rfl, ⟨A1, rfl, hs.more fun _ _ _ => trivial⟩, ext_ext _ u u2, fun _ => ⟨u2, rfl⟩⟩
  repeat (refine flowG_known (by kernel_rfl) (fun K hK => ?_); go_simp; (first | (refine hK _ ?_; clear hK K) | (apply Exists.intro; refine ⟨fun w' => ?_, hK _ ?_⟩; (fail); clear hK K)))
  refine flowG_knownF (by kernel_rfl) (fun K hK => ⟨.int .i64 i.op, fun W' hW' => ?_, hK _ ?_⟩)
  ·obtain ⟨u, rfl⟩ := hW'
   go_simp
  clear hK K
  repeat (refine flowG_known (by kernel_rfl) (fun K hK => ?_); go_simp; (first | (refine hK _ ?_; clear hK K) | (apply Exists.intro; refine ⟨fun w' => ?_, hK _ ?_⟩; (fail); clear hK K)))
  refine flowG_keepF [true] (PtrQ4 ot) (by kernel_rfl) (PtrQ4.stable_ rfl) (fun W' hW' => ?_) ?_
  ·try simp only [List.nil_append, List.cons_append, useH_f, useH_t, useH_nil]
   rintro _ ⟨A1, rfl, hs⟩
   obtain ⟨bk, offk, x, rfl, hbk, _, hx, _, hck⟩ := at_str hs hk9
   have hxo : x = ot := Option.some.inj (hx.symm.trans HOT.out)
   subst hxo
   go_simp
   exact ⟨⟨_, _, rfl, hbk, hck⟩, hW', fun _ => ext_refl _⟩
  refine flowG_outF [false, true] (.string ot) (by kernel_rfl) (fun W' hW' => ?_) ?_
  ·try simp only [List.nil_append, List.cons_append, useH_f, useH_t, useH_nil]
   rintro _ ⟨bk, offk, rfl, hbk, hck⟩
   go_simp
  repeat (refine flowG_known (by kernel_rfl) (fun K hK => ?_); go_simp; (first | (refine hK _ ?_; clear hK K) | (apply Exists.intro; refine ⟨fun w' => ?_, hK _ ?_⟩; (fail); clear hK K)))
  repeat (refine flowG_known (by kernel_rfl) (fun K hK => ?_); go_simp; (first | (refine hK _ ?_; clear hK K) | (apply Exists.intro; refine ⟨fun w' => ?_, hK _ ?_⟩; (fail); clear hK K)))
  refine flowG_knownF (by kernel_rfl) (fun K hK => ⟨.int .i64 i.a, fun W' hW' => ?_, hK _ ?_⟩)
  ·obtain ⟨u, rfl⟩ := hW'
   go_simp
  clear hK K
  repeat (refine flowG_known (by kernel_rfl) (fun K hK => ?_); go_simp; (first | (refine hK _ ?_; clear hK K) | (apply Exists.intro; refine ⟨fun w' => ?_, hK _ ?_⟩; (fail); clear hK K)))
  refine flowG_knownF (by kernel_rfl) (fun K hK => ⟨.int .i64 i.b, fun W' hW' => ?_, hK _ ?_⟩)
  ·obtain ⟨u, rfl⟩ := hW'
   go_simp
  clear hK K
  refine flowG_keepF [false, false] (LitB E 3 [.int .i64 i.a, .int .i64 i.b] 2) (by kernel_rfl) (LitB.stable_ rfl) (fun W' hW' => ?_) ?_
  ·try simp only [List.nil_append, List.cons_append, useH_f, useH_t, useH_nil]
   obtain ⟨u, rfl⟩ := hW'
   go_simp
   exact ⟨⟨_, rfl, by omega, heap_new_g _ _ (by rw [size_ext, hE]) _ _⟩, ext_alloc_ext _ u _, fun _ => ext_alloc _ _⟩
  refine flowG_keepF [false, false, true] (IfB4 E [.int .i64 i.a, .int .i64 i.b]) (by kernel_rfl) (IfB4.stable_ rfl) (fun W' hW' => ?_) ?_
  ·try simp only [List.nil_append, List.cons_append, useH_f, useH_t, useH_nil]
   rintro _ ⟨g, rfl, hg, hr⟩
   go_simp
   exact ⟨⟨g, rfl, hg, hr⟩, hW', fun _ => ext_refl _⟩
  refine flowG_keepF [false, false, false, true] (PrB4 E (.iface 9 (.string ot)) [.int .i64 i.a, .int .i64 i.b]) (by kernel_rfl) (PrB4.stable_ rfl) (fun W' hW' => ?_) ?_
  ·try simp only [List.nil_append, List.cons_append, useH_f, useH_t, useH_nil]
   rintro _ ⟨g, rfl, hg, hr⟩
   obtain ⟨u, rfl⟩ := hW'
   go_simp
   exact ⟨⟨_, g, rfl, by omega, hg, heap_new_g _ _ (by rw [size_ext, hE]) _ _, (Below.heap_alloc _ _ g (Array.getElem?_eq_some_iff.1 hr).1).trans hr⟩, ext_alloc_ext _ u _, fun _ => ext_alloc _ _⟩
  refine flowG_done [true, true, true, true, true] (by kernel_rfl) (fun W' hW' => ?_)
  simp only [List.nil_append, List.cons_append, endH_f, endH_t, endH_nil]
  rintro _ - _ - _ - _ - _ ⟨g2, g, rfl, hg2, hg, hr2, hr⟩
  obtain ⟨u, rfl⟩ := hW'
  go_simp
  obtain ⟨Wl, hWl⟩ : ∃ W, Wc.ext u = W := ⟨_, rfl⟩
  rw [hWl] at hr2 hr ⊢
  have HWLQ := hide hWl
  have HZL := hide (show Wc.heap.size ≤ Wl.heap.size from by rw [← hWl, size_ext]; omega)
  have HOL := hide (show OwnL Wl W0.heap.size 20 SL (.slice AL m0 cL) L0 from by rw [← hWl]; exact HO.out.ext u)
  have HBLL := hide (show Below W0.heap.size W0 Wl from by rw [← hWl]; exact HBW.out.ext HBW.out.size u)
  have hgl : g < Wl.heap.size := (Array.getElem?_eq_some_iff.1 hr).1
  have HRL := hide hr2
  obtain ⟨S3, hS3⟩ : ∃ S3 : Nat → Prop, S3 = fun b => SL b ∨ b = g := ⟨_, rfl⟩
  have HS3 := hide hS3
  have HRP := hide (show RepL Wl S3 [Pt4.str ot, .vars [i.a, i.b]] [.iface 9 (.string ot), .iface 22 (.slice (some ⟨g, 0, none⟩) 2 2)] from
   repP4 (pStr4 HOS.out) (repP4 (pVars4 (sl_row2 hr HIN.out.2.2.1 HIN.out.2.2.2.1 (by rw [HS3.out]; exact .inr rfl)) (by decide)) repN4))
  have HAP3 := hide (show ∀ x, (Value.slice AL m0 cL).ownBlock = some x → ¬ S3 x from fun x hx hh => by
   rw [hS3] at hh
   have h1 := HO.out.below_ x hx
   rcases hh with hh | hh
   ·obtain ⟨_, _, _, h3⟩ := HO.out
    exact h3 x hx hh
   ·omega)
  have HNW3 := hide (show ∀ b, S3 b → b < Wl.heap.size from fun b hh => by
   rw [hS3] at hh
   rcases hh with hh | hh
   ·have := (HSS.out b hh).2; have := HZL.out; omega
   ·omega)
  have hlen : (L0 ++ [Pt4.str ot, .vars [i.a, i.b]]).length = m0 + 2 := by rw [List.length_append, HM.out]; rfl
  have HLN := hide hlen
  clear hlen hS3 hr hr2 c0 c1 c2 c3 c4 c5 c6 c7
  refine wpList_push_at (α := Pt4) Wl rfl (.tmp 80) (.tmp 94) 95 rfl W0.heap.size 20 iA _ 16 Tryz.underlying95 HA0.out HAZ.out HA1.out HA2.out rfl (by decide) SL S3 (.slice AL m0 cL) L0 [Pt4.str ot, .vars [i.a, i.b]] rfl HOL.out ⟨g2, 0, none⟩ 2 2 [.iface 9 (.string ot), .iface 22 (.slice (some ⟨g, 0, none⟩) 2 2)] rfl rfl HRP.out (fun j u hj => lit_news (us := [.iface 9 (.string ot), .iface 22 (.slice (some ⟨g, 0, none⟩) 2 2)]) HRL.out j u hj) (fun b _ h => by rw [HS3.out]; exact .inl h) HAP3.out HNW3.out (by rw [HM.out]; unfold maxLen; omega) (by rw [HM.out]; omega) (by have := HBLL.out.size; omega) ?_
  intro v' w' ho hgr h5
  obtain ⟨A', c', hv'⟩ := ho.form
  rw [HLN.out] at hv'
  subst hv'
  have HO2 := hide ho
  have HB2 := hide (HBLL.out.grown hgr HBLL.out.size (fun g e => (HOL.out.below_ g e).1))
  clear ho hgr h5
  go_wp2_with (go_at_call 27; (with_reducible refine (HROW.out _ _ _ _ [Pt4.str ot, .vars [i.a, i.b]] _ HO2.out (by omega) HP.out (HV.out.below HB2.out HV.out.v.sz)).mono ?_); rintro e _ ⟨rfl, u, rfl⟩)
  go_ret
  exact ⟨rfl, (HB0.out.trans ((HB2.out.mono HBL.out).ext (by have := HBL.out; have := HB2.out.size; omega) u)).to_ext⟩
end Go.Proofs.YtljglhaeonbfoaaGreatDoor
namespace Go.Proofs.YtljglhaeonbfoaaGreatDoor
open Go.RowKit
theorem can1_any (x : Ins) (w : World) (S : Nat → Prop) (A : Option Addr) (n c : Nat) (h : Sl w S A n c x.args) (hok : OkI4 x) : Calls Tryz.prog 64 #[insV x A n c] w (RetX (.bool (!insB x)) w) := by
 obtain ⟨C, hC⟩ : ∃ C, w.heap.size = C := ⟨_, rfl⟩
 obtain ⟨W0, hW0⟩ : ∃ W, w.alloc (.cells #[.int .i64 x.op, .int .i64 x.dst, .int .i64 x.a, .int .i64 x.b, .int .i64 x.imm, .int .i64 x.callee, .slice A n c, .int .i64 x.many] 45) = W := ⟨_, rfl⟩
 have hrow : W0.heap[C]? = some (.cells #[.int .i64 x.op, .int .i64 x.dst, .int .i64 x.a, .int .i64 x.b, .int .i64 x.imm, .int .i64 x.callee, .slice A n c, .int .i64 x.many] 45 (0, 0)) := by rw [← hW0, ← hC]; exact heap_alloc_new w _
 have c0 : W0.cell? ⟨C, 0, none⟩ = some (.int .i64 x.op) := cell_of_row W0 C _ _ _ (0, 0) hrow
 have c1 : W0.cell? ⟨C, 1, none⟩ = some (.int .i64 x.dst) := cell_of_row W0 C _ _ _ (0, 0) hrow
 have c2 : W0.cell? ⟨C, 2, none⟩ = some (.int .i64 x.a) := cell_of_row W0 C _ _ _ (0, 0) hrow
 have c3 : W0.cell? ⟨C, 3, none⟩ = some (.int .i64 x.b) := cell_of_row W0 C _ _ _ (0, 0) hrow
 have c4 : W0.cell? ⟨C, 4, none⟩ = some (.int .i64 x.imm) := cell_of_row W0 C _ _ _ (0, 0) hrow
 have c5 : W0.cell? ⟨C, 5, none⟩ = some (.int .i64 x.callee) := cell_of_row W0 C _ _ _ (0, 0) hrow
 have c6 : W0.cell? ⟨C, 6, none⟩ = some (.slice A n c) := cell_of_row W0 C _ _ _ (0, 0) hrow
 have c7 : W0.cell? ⟨C, 7, none⟩ = some (.int .i64 x.many) := cell_of_row W0 C _ _ _ (0, 0) hrow
 have cl : C < W0.heap.size := (Array.getElem?_eq_some_iff.1 hrow).1
 have HB0 := hide (show Below w.heap.size w W0 from by rw [← hW0]; exact (Below.refl _ _).alloc (Nat.le_refl _) _)
 obtain ⟨r, hr⟩ : ∃ r, insB x = r := ⟨_, rfl⟩
 have HI := hide (show Calls Tryz.prog 65 #[insV x A n c] W0 (RetX (.bool r) W0) from hr ▸ isIns_ir x W0 S A n c (by rw [← hW0]; exact h.alloc _) hok)
 have HR := hide hr
 clear hrow h hr
 go_enter Tryz.func64, Tryz.ntmps64
 go_wp2_with (go_at_call 65; (with_reducible refine HI.out.mono ?_); rintro e _ ⟨rfl, u, rfl⟩)
 go_ret
 exact RetX.b (by rw [HR.out]) (HB0.out.ext HB0.out.size u)
abbrev blkV (b : Block) (A : Option Addr) (n c : Nat) : Value := .agg #[.slice A n c, .int .i64 b.term.kind, .int .i64 b.term.a, .int .i64 b.term.to0, .int .i64 b.term.to1]
set_option maxRecDepth 100000 in
set_option maxHeartbeats 16000000 in
theorem can_any (x : Block) (w : World) (S : Nat → Prop) (A : Option Addr) (n c : Nat) (h : Sl w S A n c x.ins) (hok : OkT4 x.term) : Calls Tryz.prog 24 #[blkV x A n c] w (RetX (.bool (blockB x)) w) := by
 obtain ⟨l, k, a, t0, t1⟩ := x
 simp only at h hok
 obtain ⟨C, hC⟩ : ∃ C, w.heap.size = C := ⟨_, rfl⟩
 obtain ⟨W0, hW0⟩ : ∃ W, w.alloc (.cells #[.slice A n c, .int .i64 k, .int .i64 a, .int .i64 t0, .int .i64 t1] 52) = W := ⟨_, rfl⟩
 have hrow : W0.heap[C]? = some (.cells #[.slice A n c, .int .i64 k, .int .i64 a, .int .i64 t0, .int .i64 t1] 52 (0, 0)) := by rw [← hW0, ← hC]; exact heap_alloc_new w _
 have c0 : W0.cell? ⟨C, 0, none⟩ = some (.slice A n c) := cell_of_row W0 C _ _ _ (0, 0) hrow
 have c1 : W0.cell? ⟨C, 1, none⟩ = some (.int .i64 k) := cell_of_row W0 C _ _ _ (0, 0) hrow
 have c2 : W0.cell? ⟨C, 2, none⟩ = some (.int .i64 a) := cell_of_row W0 C _ _ _ (0, 0) hrow
 have c3 : W0.cell? ⟨C, 3, none⟩ = some (.int .i64 t0) := cell_of_row W0 C _ _ _ (0, 0) hrow
 have c4 : W0.cell? ⟨C, 4, none⟩ = some (.int .i64 t1) := cell_of_row W0 C _ _ _ (0, 0) hrow
 have cl : C < W0.heap.size := (Array.getElem?_eq_some_iff.1 hrow).1
 have HB0 := hide (show Below w.heap.size w W0 from by rw [← hW0]; exact (Below.refl _ _).alloc (Nat.le_refl _) _)
 have HBL := hide (show w.heap.size ≤ W0.heap.size from HB0.out.size)
 have HSL := hide (show Sl W0 S A n c l from by rw [← hW0]; exact h.alloc _)
 obtain ⟨tb, htb⟩ : ∃ r, termB ⟨k, a, t0, t1⟩ = r := ⟨_, rfl⟩
 obtain ⟨fb, hfb⟩ : ∃ r, anyF (fun i => !insB i) l = r := ⟨_, rfl⟩
 have HT := hide (show Calls Tryz.prog 66 #[.agg #[.int .i64 k, .int .i64 a, .int .i64 t0, .int .i64 t1]] W0 (RetX (.bool tb) W0) from htb ▸ isTerm_ir ⟨k, a, t0, t1⟩ W0 hok)
 have HC := hide (fun u : Ext => show Calls Tryz.prog 67 #[.slice A n c, .func (.func 64) #[] #[]] (W0.ext u) (RetX (.bool fb) (W0.ext u)) from hfb ▸ containsIns4_any (W0.ext u) S A n c l (fun i => !insB i) 64 #[] (HSL.out.ext u) (fun _ _ => by kernel_rfl) (fun x A1 n1 c1 u2 hx => by rw [show (#[insV x A1 n1 c1] ++ #[] : Array Value) = #[insV x A1 n1 c1] from rfl]; exact can1_any x _ S A1 n1 c1 hx.1 hx.2))
 obtain ⟨l64, hl64⟩ : ∃ q, decide ((n : Int) ≤ 64) = q := ⟨_, rfl⟩
 obtain ⟨lo, hlo⟩ : ∃ q, decide (0 ≤ min t0 t1) = q := ⟨_, rfl⟩
 obtain ⟨hi, hhi⟩ : ∃ q, decide (max t0 t1 < 64) = q := ⟨_, rfl⟩
 have hl := h.len
 have HE := hide (show blockB ⟨l, ⟨k, a, t0, t1⟩⟩ = (l64 && tb && !fb && lo && hi) from by
  unfold blockB
  rw [← hl64, ← hlo, ← hhi, ← hfb, ← htb, anyF_any4, any_not4, show decide (l.length ≤ 64) = decide ((n : Int) ≤ 64) from by rw [hl, Bool.eq_iff_iff]; simp; try omega,
   show goesB ⟨k, a, t0, t1⟩ = (decide (0 ≤ min t0 t1) && decide (max t0 t1 < 64)) from by unfold goesB; rw [Bool.eq_iff_iff]; simp; omega]
  generalize decide ((n : Int) ≤ 64) = p1
  generalize termB ⟨k, a, t0, t1⟩ = p2
  generalize l.all insB = p3
  generalize decide (0 ≤ min t0 t1) = p4
  generalize decide (max t0 t1 < 64) = p5
  cases p1 <;> cases p2 <;> cases p3 <;> cases p4 <;> cases p5 <;> rfl)
 clear hrow h htb hfb hl hok
 cases l64 with
 | false =>
  go_enter Tryz.func24, Tryz.ntmps24
  go_wp2_with fail
  go_ret
  exact RetX.b (by rw [HE.out]; rfl) HB0.out
 | true =>
 cases tb with
 | false =>
  go_enter Tryz.func24, Tryz.ntmps24
  go_wp2_with (go_at_call 66; (with_reducible refine HT.out.mono ?_); rintro e _ ⟨rfl, u, rfl⟩)
  go_ret
  exact RetX.b (by rw [HE.out]; rfl) (HB0.out.ext HBL.out u)
 | true =>
 cases fb with
 | true =>
  go_enter Tryz.func24, Tryz.ntmps24
  go_wp2_with (first | (go_at_call 66; (with_reducible refine HT.out.mono ?_); rintro e _ ⟨rfl, u, rfl⟩) | (go_at_call 67; (with_reducible refine (HC.out _).mono ?_); rintro e _ ⟨rfl, u2, rfl⟩))
  go_ret
  exact RetX.b (by rw [HE.out]; rfl) ((HB0.out.ext HBL.out u).ext (by have := HBL.out; rw [size_ext]; omega) u2)
 | false =>
 cases lo
 all_goals
  go_enter Tryz.func24, Tryz.ntmps24
  go_wp2_with (first | (go_at_call 66; (with_reducible refine HT.out.mono ?_); rintro e _ ⟨rfl, u, rfl⟩) | (go_at_call 67; (with_reducible refine (HC.out _).mono ?_); rintro e _ ⟨rfl, u2, rfl⟩))
  go_ret
  exact RetX.b (by rw [HE.out]; rfl) ((HB0.out.ext HBL.out u).ext (by have := HBL.out; rw [size_ext]; omega) u2)
theorem cannot_any (x : Block) (w : World) (S : Nat → Prop) (A : Option Addr) (n c : Nat) (h : Sl w S A n c x.ins) (hok : OkT4 x.term) : Calls Tryz.prog 23 #[blkV x A n c] w (RetX (.bool (!blockB x)) w) := by
 obtain ⟨C, hC⟩ : ∃ C, w.heap.size = C := ⟨_, rfl⟩
 obtain ⟨W0, hW0⟩ : ∃ W, w.alloc (.cells #[.slice A n c, .int .i64 x.term.kind, .int .i64 x.term.a, .int .i64 x.term.to0, .int .i64 x.term.to1] 52) = W := ⟨_, rfl⟩
 have hrow : W0.heap[C]? = some (.cells #[.slice A n c, .int .i64 x.term.kind, .int .i64 x.term.a, .int .i64 x.term.to0, .int .i64 x.term.to1] 52 (0, 0)) := by rw [← hW0, ← hC]; exact heap_alloc_new w _
 have c0 : W0.cell? ⟨C, 0, none⟩ = some (.slice A n c) := cell_of_row W0 C _ _ _ (0, 0) hrow
 have c1 : W0.cell? ⟨C, 1, none⟩ = some (.int .i64 x.term.kind) := cell_of_row W0 C _ _ _ (0, 0) hrow
 have c2 : W0.cell? ⟨C, 2, none⟩ = some (.int .i64 x.term.a) := cell_of_row W0 C _ _ _ (0, 0) hrow
 have c3 : W0.cell? ⟨C, 3, none⟩ = some (.int .i64 x.term.to0) := cell_of_row W0 C _ _ _ (0, 0) hrow
 have c4 : W0.cell? ⟨C, 4, none⟩ = some (.int .i64 x.term.to1) := cell_of_row W0 C _ _ _ (0, 0) hrow
 have cl : C < W0.heap.size := (Array.getElem?_eq_some_iff.1 hrow).1
 have HB0 := hide (show Below w.heap.size w W0 from by rw [← hW0]; exact (Below.refl _ _).alloc (Nat.le_refl _) _)
 obtain ⟨r, hr⟩ : ∃ r, blockB x = r := ⟨_, rfl⟩
 have HI := hide (show Calls Tryz.prog 24 #[blkV x A n c] W0 (RetX (.bool r) W0) from hr ▸ can_any x W0 S A n c (by rw [← hW0]; exact h.alloc _) hok)
 have HR := hide hr
 clear hrow h hr
 go_enter Tryz.func23, Tryz.ntmps23
 go_wp2_with (go_at_call 24; (with_reducible refine HI.out.mono ?_); rintro e _ ⟨rfl, u, rfl⟩)
 go_ret
 exact RetX.b (by rw [HR.out]) (HB0.out.ext HB0.out.size u)
end Go.Proofs.YtljglhaeonbfoaaGreatDoor
