/- law28: walks: a buffer of bytes of the call's own; plain: a line in the document's pieces. law28: walks: the document's text of a certificate. Printed by gen_p28j.py. -/
import Derived.Test.YtppkanniefignaaGreatDoorG29
import Derived.Test.YtppkanniefignaaGreatDoorG27
import Derived.Lib.BufSteps
import Derived.Lib.BufferRead
import Derived.Lib.SlBytesRow
import Derived.Test.YtppkanniefignaaGreatDoorG16
import Derived.Test.YtppkanniefignaaGreatDoorG45
set_option linter.unusedSimpArgs false
set_option linter.unusedVariables false
namespace Go.Proofs.YtppkanniefignaaGreatDoor
open Go.RowKit Go.Maps
def DBf (B : Nat) (v : Value) (acc : ByteArray) (W0 w : World) : Prop := Lib.OwnBuf B 5 v acc.size (Lib.strCells acc) W0 w
theorem strCells_app (a b : ByteArray) : Lib.strCells (a ++ b) = Lib.strCells a ++ Lib.strCells b := by
 unfold Lib.strCells
 simp
section
variable {B : Nat} {v : Value} {acc : ByteArray} {W0 w w' : World}
theorem DBf.below (h : DBf B v acc W0 w) : Below B W0 w := h.2.1
theorem DBf.le (h : DBf B v acc W0 w) : B ≤ w.heap.size := h.2.2
theorem DBf.nil (hB : B ≤ w.heap.size) : DBf B (.slice none 0 0) ByteArray.empty w w := ⟨World.ownsRowF_nil _ _ _ _, Below.refl _ _, hB⟩
theorem DBf.alloc (h : DBf B v acc W0 w) (o : Obj) : DBf B v acc W0 (w.alloc o) := Lib.OwnBuf.alloc h o
theorem DBf.ext (h : DBf B v acc W0 w) (u : Ext) : DBf B v acc W0 (w.ext u) := by
 refine ⟨?_, h.2.1.ext h.2.2 u, by rw [size_ext]; have := h.2.2; omega⟩
 refine ⟨h.1.1, ?_⟩
 rcases h.1.2 with hn | ⟨g, cap, cur, fz, hv, hb, hg, rest⟩
 ·exact .inl hn
 ·exact .inr ⟨g, cap, cur, fz, hv, hb, by rw [ext_block _ _ _ (Array.getElem?_eq_some_iff.1 hg).1]; exact hg, rest⟩
theorem DBf.ne (h : DBf B v acc W0 w) {F : Nat} {cur : Array Value} {T : TypeId} {fz : Nat × Nat} (hF : w.heap[F]? = some (.cells cur T fz)) (hT : (T == 5) = false) : some F ≠ v.ownBlock := by
 intro e
 rcases h.1.2 with ⟨rfl, _⟩ | ⟨g, cap, cur', fz', rfl, hb, hg, rest⟩
 ·simp [Value.ownBlock] at e
 ·simp [Value.ownBlock] at e
  subst e
  rw [hF] at hg
  injection hg with hg
  injection hg with h1 h2 h3
  subst h2
  simp at hT
theorem DBf.str (h : DBf B v acc W0 w) : (convert 85 9 v).run Tryz.prog w = .ok (.string acc) w := by
 rcases h.1.2 with ⟨rfl, hn⟩ | ⟨g, cap, cur, fz, rfl, hb, hg, hfz, hle, hmx, hcs, htk⟩
 ·rw [Lib.run_convert_nil_bytes w _ _ _ 0 Tryz.underlying85 Tryz.underlying5 Tryz.underlying9]
  congr 2
  apply bytes_ext
  have : acc.data.toList.length = 0 := by rw [← size_list]; exact hn
  exact (List.eq_nil_of_length_eq_zero this).symm
 ·refine Lib.run_convert_whole w _ _ _ Tryz.underlying85 Tryz.underlying5 Tryz.underlying9 g 0 acc ?_ cap
  intro i hi
  have e : (Lib.strCells acc)[i]? = some (.int .u8 (acc[i].toNat : Int)) := by
   unfold Lib.strCells
   rw [List.getElem?_map]
   rw [show acc.data.toList[i]? = some acc[i] from by
    rw [List.getElem?_eq_getElem (by rw [← size_list]; exact hi)]
    rfl]
   rfl
  have := h.1.cells (g := g) (by simp [Value.ownBlock]) i _ e
  by_cases hi0 : i = 0
  ·subst hi0; simpa [Addr.add] using this
  ·simpa [Addr.add, hi0] using this
end
section
variable {P : Program} {ops : Array Oper} {rest : List Oper} {o : Oper} {a : Act} {Q : Exit → Act → World → Prop} {w : World}
theorem info_u828 : (Tryz.prog.info? 5).map (fun i => (i.zero, i.size, i.bytes)) = some (some (.int .u8 0), 1, 1) := by kernel_rfl
theorem wpList_text28 (hgd : o.guard = none) (sl x : Operand) (ho : o.op = .call { callee := .builtin .append, args := #[sl, x], argTypes := #[85, 9] })
  (B : Nat) (v : Value) (acc : ByteArray) (W0 : World) (hs : a.eval sl = v) (hb : DBf B v acc W0 w) (s : ByteArray) (hx : a.eval x = .string s) (hlen : acc.size + s.size ≤ 140737488355328)
  (h : ∀ v' w', DBf B v' (acc ++ s) W0 w' → w.grownBy w' v.ownBlock → wpList Tryz.prog ops Q rest (a.put o.dst v') w') : wpList Tryz.prog ops Q (o :: rest) a w := by
 obtain ⟨i0, hi, hz, hz1, hz2⟩ := info_parts info_u828
 refine Lib.wpList_append_own_stringF w hgd sl x _ _ ho B 5 i0 Tryz.underlying85 Tryz.underlying9 hi hz hz1 hz2 v acc.size (Lib.strCells acc) hs hb.1 s hx (by unfold maxLen; omega) hlen hb.2.2 ?_
 intro v' w' ho' hg _
 refine h v' w' ?_ hg
 have := Lib.OwnBuf.grown hb ho' hg
 unfold DBf
 rw [strCells_app, ByteArray.size_append]
 exact this
theorem wpList_nl28 (hgd : o.guard = none) (sl x : Operand) (ho : o.op = .call { callee := .builtin .append, args := #[sl, x], argTypes := #[85, 85] })
  (B : Nat) (v : Value) (acc : ByteArray) (W0 : World) (hs : a.eval sl = v) (hb : DBf B v acc W0 w) (hx : a.eval x = .slice (some ⟨w.heap.size, 0, none⟩) 1 1) (hlen : acc.size + 1 ≤ 140737488355328)
  (h : ∀ v' w', DBf B v' (acc ++ ⟨#[10]⟩) W0 w' → wpList Tryz.prog ops Q rest (a.put o.dst v') w') : wpList Tryz.prog ops Q (o :: rest) a (w.alloc (.cells #[.int .u8 10] 5)) := by
 obtain ⟨i0, hi, hz, hz1, hz2⟩ := info_parts info_u828
 refine Lib.wpList_append_byte hgd sl x _ ho B 5 i0 Tryz.underlying85 hi hz hz1 hz2 v acc.size (Lib.strCells acc) hs W0 w 10 hb hx hlen ?_
 intro v' w' ho'
 refine h v' w' ?_
 unfold DBf
 rw [strCells_app, ByteArray.size_append]
 exact ho'
end
def headT (t : Tile) : ByteArray := (((⟨#[116, 105, 108, 101, 32]⟩ ++ kindT t.kind.toNat) ++ ⟨#[32]⟩) ++ itoaB t.parent) ++ ⟨#[32, 58]⟩
theorem line_tile (t : Tile) : lineB (tileP t) = headT t ++ tailW (t.blocks.map itoaB) ++ ⟨#[10]⟩ := by
 have e1 : (⟨#[116, 105, 108, 101, 32]⟩ : ByteArray) = tTile ++ ⟨#[32]⟩ := rfl
 have e2 : (⟨#[32, 58]⟩ : ByteArray) = ⟨#[32]⟩ ++ tColon := rfl
 have e3 : (t.blocks.map Pt.int).map ptB = t.blocks.map itoaB := by rw [List.map_map]; rfl
 unfold lineB headT tileP
 rw [e1, e2, List.map_append, e3]
 show (tTile ++ ((⟨#[32]⟩ ++ kindT t.kind.toNat) ++ ((⟨#[32]⟩ ++ itoaB t.parent) ++ ((⟨#[32]⟩ ++ tColon) ++ tailW (t.blocks.map itoaB))))) ++ _ = _
 simp only [ByteArray.append_assoc]
theorem tail_int (acc : ByteArray) (x : Int) (l : List Int) : acc ++ tailW ((x :: l).map itoaB) ++ ⟨#[10]⟩ = (acc ++ (⟨#[32]⟩ ++ itoaB x)) ++ tailW (l.map itoaB) ++ ⟨#[10]⟩ := by
 show acc ++ ((⟨#[32]⟩ ++ itoaB x) ++ tailW (l.map itoaB)) ++ _ = _
 simp only [ByteArray.append_assoc]
theorem tail_nil (acc : ByteArray) : acc ++ tailW [] ++ ⟨#[10]⟩ = acc ++ ⟨#[10]⟩ := by
 show acc ++ ByteArray.empty ++ _ = _
 rw [ByteArray.append_empty]
theorem line_edge (l : List Fact) : lineB (edgeP l) = tEdge ++ tailW ((factsP true l).map ptB) ++ ⟨#[10]⟩ := rfl
theorem written_parts (f : Fact) (r : List ByteArray) : tailW ((factP f).map ptB ++ r) = (⟨#[32]⟩ ++ writtenB f) ++ tailW r := by
 have e2 : (⟨#[32, 61, 32]⟩ : ByteArray) = ⟨#[32]⟩ ++ tEq ++ ⟨#[32]⟩ := rfl
 have e3 : ptB (.nm (.loc f.loc)) = (if f.loc.slot = true then ⟨#[115]⟩ else ⟨#[114]⟩) ++ itoaB f.loc.n := rfl
 unfold writtenB
 rw [e2]
 show (⟨#[32]⟩ ++ ptB (.nm (.var f.var))) ++ ((⟨#[32]⟩ ++ tEq) ++ ((⟨#[32]⟩ ++ ptB (.nm (.loc f.loc))) ++ tailW r)) = _
 rw [e3]
 simp only [ByteArray.append_assoc]
theorem tail_fact1 (acc : ByteArray) (f : Fact) (l : List Fact) : acc ++ tailW ((factsP true (f :: l)).map ptB) ++ ⟨#[10]⟩ = (acc ++ (⟨#[32]⟩ ++ writtenB f)) ++ tailW ((factsP false l).map ptB) ++ ⟨#[10]⟩ := by
 rw [show factsP true (f :: l) = factP f ++ factsP false l from rfl, List.map_append, written_parts]
 simp only [ByteArray.append_assoc]
theorem tail_fact2 (acc : ByteArray) (f : Fact) (l : List Fact) : acc ++ tailW ((factsP false (f :: l)).map ptB) ++ ⟨#[10]⟩ = ((acc ++ ⟨#[32, 44]⟩) ++ (⟨#[32]⟩ ++ writtenB f)) ++ tailW ((factsP false l).map ptB) ++ ⟨#[10]⟩ := by
 have e2 : (⟨#[32, 44]⟩ : ByteArray) = ⟨#[32]⟩ ++ tComma := rfl
 rw [show factsP false (f :: l) = .str tComma :: (factP f ++ factsP false l) from rfl, List.map_cons, List.map_append, e2]
 show acc ++ ((⟨#[32]⟩ ++ tComma) ++ tailW ((factP f).map ptB ++ (factsP false l).map ptB)) ++ _ = _
 rw [written_parts]
 simp only [ByteArray.append_assoc]
theorem factsP_nil (b : Bool) : factsP b [] = [] := by cases b <;> rfl
theorem written_sz {f : Fact} (h : FactIn f) : (writtenB f).size ≤ 60 := by
 have h1 := fact_words h (ptB (.nm (.var f.var))) (by simp [factP])
 have h2 := fact_words h (ptB (.nm (.loc f.loc))) (by simp [factP])
 have e3 : ptB (.nm (.loc f.loc)) = (if f.loc.slot = true then ⟨#[115]⟩ else ⟨#[114]⟩) ++ itoaB f.loc.n := rfl
 have e2 : (⟨#[32, 61, 32]⟩ : ByteArray).size = 3 := rfl
 unfold writtenB
 rw [ByteArray.append_assoc, ← e3, ByteArray.size_append, ByteArray.size_append, e2]
 omega
end Go.Proofs.YtppkanniefignaaGreatDoor
namespace Go.Proofs.YtppkanniefignaaGreatDoor
open Go.RowKit Go.Maps
theorem headT_sz {t : Tile} (h : TileIn t) : (headT t).size ≤ 5000 := by
 have h1 := line_tile_sz h
 rw [line_tile, ByteArray.size_append, ByteArray.size_append] at h1
 omega
theorem tile_kept28 {w1 w2 : World} {u : Ext} {F b : Nat} {v : Value} {acc : ByteArray} {W0 : World} {row : Array Value} (hd : DBf b v acc W0 (w1.ext u)) (hrow : w1.heap[F]? = some (.cells row 35 (0, 0))) (hg : (w1.ext u).grownBy w2 v.ownBlock) : w2.heap[F]? = some (.cells row 35 (0, 0)) := by
 have hl := (Array.getElem?_eq_some_iff.1 hrow).1
 have h1 : (w1.ext u).heap[F]? = some (.cells row 35 (0, 0)) := (ext_block w1 u F hl).trans hrow
 exact (hg.block F (Array.getElem?_eq_some_iff.1 h1).1 (hd.ne h1 rfl)).trans h1
set_option maxRecDepth 100000 in
set_option maxHeartbeats 32000000 in
theorem dshow28_any (w : World) (S S2 : Nat → Prop) (A B : Option Addr) (n k m j : Nat) (x : Cert) (h : Sl w S A n k x.tiles) (g : Sl w S2 B m j x.facts) (hv : VarsP w) (hf : fitsB x = true) : Calls Tryz.prog 48 #[.agg #[.slice A n k, .slice B m j]] w (RetX (.string (showB x)) w) := by
 obtain ⟨tl, fl⟩ := x
 simp only at h g
 have HF := hide (fits_in hf)
 have hn : n ≤ 200 := by rw [← h.len]; exact HF.out.t
 have hm : m ≤ 400 := by rw [← g.len]; exact HF.out.f
 obtain ⟨C, hC⟩ : ∃ C, w.heap.size = C := ⟨_, rfl⟩
 obtain ⟨W0, hW0⟩ : ∃ W0, w.alloc (.cells #[.slice A n k, .slice B m j] 26) = W0 := ⟨_, rfl⟩
 obtain ⟨b, hb⟩ : ∃ b, W0.heap.size = b := ⟨_, rfl⟩
 have HB0 := hide (show Below w.heap.size w W0 from by rw [← hW0]; exact (Below.refl _ _).alloc (Nat.le_refl _) _)
 have hbC : b = C + 1 := by rw [← hb, ← hW0, ← hC]; simp
 have hr0 : W0.heap[C]? = some (.cells #[.slice A n k, .slice B m j] 26 (0, 0)) := by rw [← hW0, ← hC]; exact heap_alloc_new w _
 have a0 : W0.cell? ⟨C, 0, none⟩ = some (.slice A n k) := cell_of_row W0 C _ _ _ (0, 0) hr0
 have a1 : W0.cell? ⟨C, 1, none⟩ = some (.slice B m j) := cell_of_row W0 C _ _ _ (0, 0) hr0
 have HS := hide (show Sl W0 (fun q => q < w.heap.size) A n k tl from by rw [← hW0]; exact (h.more (S' := fun q => q < w.heap.size) fun q hq _ => hq).alloc _)
 have HS2 := hide (show Sl W0 (fun q => q < w.heap.size) B m j fl from by rw [← hW0]; exact (g.more (S' := fun q => q < w.heap.size) fun q hq _ => hq).alloc _)
 have HV := hide (show VarsP W0 from by rw [← hW0]; exact hv.alloc _)
 have HGB := hide (show 8 ≤ b from hb ▸ HV.out.v.sz)
 have HD0 := hide (show DBf b (.slice none 0 0) ByteArray.empty W0 W0 from DBf.nil (by omega))
 have HKEEP := hide (show ∀ V : World, Below b W0 V → ∀ (bq off : Nat) (u : Value), bq < b → W0.cell? ⟨bq, off, none⟩ = some u → V.cell? ⟨bq, off, none⟩ = some u from fun V hV bq off u hlt hc => (hV.cell (p := ⟨bq, off, none⟩) hlt).trans hc)
 obtain ⟨T0, hT0⟩ : ∃ T, linesB ByteArray.empty (tl.map tileP) = T := ⟨_, rfl⟩
 obtain ⟨T1, hT1⟩ : ∃ T, linesB T0 (fl.map edgeP) = T := ⟨_, rfl⟩
 have hsh : showB ⟨tl, fl⟩ = T1 := by unfold showB; simp only; rw [hT0, hT1]
 rw [hsh]
 have HT0 := hide hT0; have HT1 := hide hT1
 have HCQ := hide hC; have HWQ := hide hW0; have HBQ := hide hb
 have HA0 := hide a0; have HA1 := hide a1
 have hCb : C < b := by omega
 clear h g hf hv hr0 hsh hT0 hT1 hC hb hW0 a0 a1 hbC
 go_enter Tryz.func48, Tryz.ntmps48
 go_upto_region 2 with (fail)
 rw [HWQ.out, HCQ.out]
 go_wp2_with fail
 go_loopw [3, 4] (fun vv i wr => ∃ (v : Value) (k1 : Nat) (acc : ByteArray), v = vv ∧ i = .int .i64 k1 ∧ k1 ≤ n ∧ DBf b v acc W0 wr ∧ linesB acc ((tl.drop k1).map tileP) = T0 ∧ acc.size ≤ 5000 * k1) (fun _ i _ => n - (intOf i).toNat)
 case atStart => exact ⟨_, 0, ByteArray.empty, rfl, rfl, Nat.zero_le _, HD0.out, HT0.out, Nat.zero_le _⟩
 case round =>
  obtain ⟨v, k1, acc, rfl, rfl, hk, hd, hli, hsz⟩ := hrel
  have HD := hide hd; have HLI := hide hli; have HSZ := hide hsz
  clear hd hli hsz
  have a0 := HKEEP.out _ HD.out.below _ _ _ hCb HA0.out
  have al : C < wr.heap.size := by have := HD.out.le; omega
  by_cases hlt : k1 < n
  ·obtain ⟨bb, off, t, At, nt, ct, hA, hbb, hx, hx1, hx2, hs1, c0, c1, c2⟩ := at_Tile HS.out hlt
   have HX := hide (drop_at hx)
   have HTI := hide (tileOk_in (HF.out.ts t (mem_at hx)))
   have HSB := hide hs1
   obtain ⟨kd, pr, bl⟩ := t
   dsimp only at c0 c1 c2 hx1 hx2 hs1
   obtain ⟨kn, hkn⟩ : ∃ kn : Nat, kd = (kn : Int) := ⟨kd.toNat, by have := HTI.out.k1; simp only at this; omega⟩
   subst hkn
   have hk1 : 1 ≤ kn := by have := HTI.out.k1; simp only at this; omega
   have hk4 : kn ≤ 4 := by have := HTI.out.k4; simp only at this; omega
   have hbb2 : bb < b := by have := HBQ.out; omega
   replace c0 := HKEEP.out _ HD.out.below _ _ _ hbb2 c0
   replace c1 := HKEEP.out _ HD.out.below _ _ _ hbb2 c1
   replace c2 := HKEEP.out _ HD.out.below _ _ _ hbb2 c2
   have bl1 : bb < wr.heap.size := by have := HD.out.le; omega
   subst hA
   obtain ⟨F, hF⟩ : ∃ F, wr.heap.size = F := ⟨_, rfl⟩
   obtain ⟨W2, hW2⟩ : ∃ W, wr.alloc (.cells #[.int .i64 kn, .int .i64 pr, .slice At nt ct] 35) = W := ⟨_, rfl⟩
   have hrow : W2.heap[F]? = some (.cells #[.int .i64 kn, .int .i64 pr, .slice At nt ct] 35 (0, 0)) := by rw [← hW2, ← hF]; exact heap_alloc_new wr _
   obtain ⟨m0, m1, m2⟩ := cells3 hrow
   have ml : F < W2.heap.size := (Array.getElem?_eq_some_iff.1 hrow).1
   have HR2 := hide hrow
   have HD2 := hide (show DBf b v acc W0 W2 from by rw [← hW2]; exact HD.out.alloc _)
   have HV2 := hide (show VarsP W2 from HV.out.below HD2.out.below HGB.out)
   have HFQ := hide hF; have HW2 := hide hW2
   have HIP := hide (fun u : Ext => itoaP_any pr hx2 (W2.ext u) (HV2.out.ext u))
   have HKD := hide (fun W : World => kind28_any kn hk1 hk4 W)
   have HRS := hide (show (lineB (tileP ⟨(kn : Int), pr, bl⟩)).size ≤ 5000 from line_tile_sz HTI.out)
   have HLT := hide (line_tile ⟨(kn : Int), pr, bl⟩)
   have HHS := hide (headT_sz HTI.out)
   have HHD := hide (show headT ⟨(kn : Int), pr, bl⟩ = (((⟨#[116, 105, 108, 101, 32]⟩ ++ kindT kn) ++ ⟨#[32]⟩) ++ itoaB pr) ++ ⟨#[32, 58]⟩ from rfl)
   obtain ⟨tk, htk⟩ : ∃ q, kindT kn = q := ⟨_, rfl⟩
   obtain ⟨tp, htp⟩ : ∃ q, itoaB pr = q := ⟨_, rfl⟩
   obtain ⟨hh, hhh⟩ : ∃ q, headT ⟨(kn : Int), pr, bl⟩ = q := ⟨_, rfl⟩
   obtain ⟨Ln, hLn⟩ : ∃ q, lineB (tileP ⟨(kn : Int), pr, bl⟩) = q := ⟨_, rfl⟩
   rw [htk] at HKD HHD
   rw [htp] at HIP HHD
   rw [hhh] at HHD HHS HLT
   rw [hLn] at HRS HLT
   have HLN := hide (show linesB (acc ++ Ln) ((tl.drop (k1 + 1)).map tileP) = T0 from by
    have h := HLI.out
    rw [HX.out, List.map_cons, linesB_cons, hLn] at h
    exact h)
   have hsum : tk.size + tp.size ≤ 5000 := by have h1 := HHS.out; rw [HHD.out] at h1; simp only [ByteArray.size_append] at h1; omega
   have l1 : (⟨#[116, 105, 108, 101, 32]⟩ : ByteArray).size = 5 := rfl
   have l2 : (⟨#[32]⟩ : ByteArray).size = 1 := rfl
   have l3 : (⟨#[32, 58]⟩ : ByteArray).size = 2 := rfl
   have g1 : (⟨#[116, 105, 108, 101, 32]⟩ : ByteArray).size + tk.size ≤ 9223372036854775807 := by omega
   have g2 : (⟨#[116, 105, 108, 101, 32]⟩ ++ tk).size + (⟨#[32]⟩ : ByteArray).size ≤ 9223372036854775807 := by simp only [ByteArray.size_append]; omega
   have g3 : (⟨#[116, 105, 108, 101, 32]⟩ ++ tk ++ ⟨#[32]⟩).size + tp.size ≤ 9223372036854775807 := by simp only [ByteArray.size_append]; omega
   have g4 : (⟨#[116, 105, 108, 101, 32]⟩ ++ tk ++ ⟨#[32]⟩ ++ tp).size + (⟨#[32, 58]⟩ : ByteArray).size ≤ 9223372036854775807 := by simp only [ByteArray.size_append]; omega
   have hla : acc.size + (⟨#[116, 105, 108, 101, 32]⟩ ++ tk ++ ⟨#[32]⟩ ++ tp ++ ⟨#[32, 58]⟩).size ≤ 140737488355328 := by have := HSZ.out; simp only [ByteArray.size_append]; omega
   have HLA := hide hla
   have HSZR := hide (show (acc ++ Ln).size ≤ 5000 * (k1 + 1) from by have := HSZ.out; have := HRS.out; rw [ByteArray.size_append]; omega)
   clear hx hrow hF hW2 hx1 hx2 hs1 htk htp hhh hLn hla
   go_upto_region 6 with (fail)
   rw [HW2.out]
   try rw [HFQ.out]
   clear c0 c1 c2
   refine wp_region_G_tail (extF W2) (extF W2) [] [] 11 (by kernel_rfl) rfl (by kernel_rfl) (by kernel_rfl) (fun _ u ⟨x, hx⟩ => by rw [hx]; exact ext_ext W2 x u) (fun _ u ⟨x, hx⟩ => by rw [hx]; exact ext_ext W2 x u) (ext_drew W2) (ext_drew W2) ?_
   simp only [List.take_succ_cons, List.take_zero, List.drop_succ_cons, List.drop_zero]
   repeat (refine flowG_known0 (by kernel_rfl) (by kernel_rfl) (fun K hK => ?_); go_simp; (first | (refine hK _ ?_; clear hK K) | (refine ⟨undef, (by intros; rw [if_neg (by decide)]), hK _ ?_⟩; clear hK K) | (apply Exists.intro; refine ⟨fun _ => ?_, hK _ ?_⟩; (first | (go_at_call 86; with_reducible exact HKD.out _) | (go_at_call 102; with_reducible exact HIP.out _) | (rw [if_neg]; (exact ⟨rfl, rfl⟩); (first | omega | (simp only [ByteArray.size_append, l1, l2, l3]; omega)))); clear hK K)))
   refine flowG_done [] (by kernel_rfl) (fun V9 hV9 => ?_)
   obtain ⟨u9, hV9⟩ := hV9
   have HD9 := hide (show DBf b v acc W0 V9 from by rw [hV9]; exact HD2.out.ext u9)
   have HR9 := hide (show V9.heap[F]? = some (.cells #[.int .i64 kn, .int .i64 pr, .slice At nt ct] 35 (0, 0)) from by rw [hV9, ext_block _ _ _ (Array.getElem?_eq_some_iff.1 HR2.out).1]; exact HR2.out)
   clear hV9
   simp only [List.nil_append, List.cons_append, endH_f, endH_t, endH_nil]
   go_simp
   go_wp2_with (at_builtin; refine wpList_text28 rfl (.tmp 21) (.tmp 31) rfl b v acc W0 rfl HD9.out _ rfl HLA.out ?_; intro v4 W4 hd4 hg4; have HD4 := hide hd4; have HR4 := hide (show W4.heap[F]? = some (.cells #[.int .i64 kn, .int .i64 pr, .slice At nt ct] 35 (0, 0)) from (hg4.block F (Array.getElem?_eq_some_iff.1 HR9.out).1 (HD9.out.ne HR9.out rfl)).trans HR9.out); clear hd4 hg4)
   rw [← HHD.out] at HD4
   clear m0 m1 m2 ml g1 g2 g3 g4 a0 al HHD l1 l2 l3 hsum
   have hnt : nt ≤ 200 := by rw [← HSB.out.len]; exact HTI.out.n
   obtain ⟨R, hR⟩ : ∃ R, acc ++ Ln = R := ⟨_, rfl⟩
   have HRE := hide (show acc ++ hh ++ tailW (bl.map itoaB) ++ ⟨#[10]⟩ = R from by rw [← hR, HLT.out]; simp only [ByteArray.append_assoc])
   rw [hR] at HLN HSZR
   clear hR HLT HKD HIP
   go_loopw [3, 6] (fun vv i wr => ∃ (v : Value) (k2 : Nat) (acc2 : ByteArray), v = vv ∧ i = .int .i64 k2 ∧ k2 ≤ nt ∧ DBf b v acc2 W0 wr ∧ acc2 ++ tailW ((bl.drop k2).map itoaB) ++ ⟨#[10]⟩ = R ∧ wr.heap[F]? = some (.cells #[.int .i64 kn, .int .i64 pr, .slice At nt ct] 35 (0, 0))) (fun _ i _ => nt - (intOf i).toNat)
   case atStart => exact ⟨_, 0, _, rfl, rfl, Nat.zero_le _, HD4.out, HRE.out, HR4.out⟩
   case round =>
    obtain ⟨v2, k2, acc2, rfl, rfl, hk2, hd, he, hrow⟩ := hrel
    obtain ⟨wr2, hwr2⟩ : ∃ V, V = wr := ⟨_, rfl⟩
    subst hwr2
    have HDa := hide hd; have HEa := hide he; have HRa := hide hrow
    obtain ⟨m0, m1, m2⟩ := cells3 hrow
    have ml : F < wr2.heap.size := (Array.getElem?_eq_some_iff.1 hrow).1
    have HSa := hide (show acc2.size ≤ R.size from by rw [← he]; simp only [ByteArray.size_append]; omega)
    have HRz := hide (show R.size ≤ 1000000 from by have := HSZR.out; omega)
    clear hd he hrow
    by_cases hlt2 : k2 < nt
    ·obtain ⟨b2, off2, y, hA2, hb2, hy, hyi, d0⟩ := at_int HSB.out hlt2
     subst hA2
     replace d0 := HKEEP.out _ HDa.out.below _ _ _ (by have := HBQ.out; omega) d0
     have bl2 : b2 < wr2.heap.size := by have := HDa.out.le; have := HBQ.out; omega
     have HIY := hide (itoaP_any y hyi wr2 (HV.out.below HDa.out.below HGB.out))
     have HE2 := hide (show (acc2 ++ (⟨#[32]⟩ ++ itoaB y)) ++ tailW ((bl.drop (k2 + 1)).map itoaB) ++ ⟨#[10]⟩ = R from by rw [← tail_int, ← drop_at hy]; exact HEa.out)
     have hys := itoa_sz28 y hyi
     obtain ⟨ty, hty⟩ : ∃ q, itoaB y = q := ⟨_, rfl⟩
     rw [hty] at HIY HE2 hys
     have l2 : (⟨#[32]⟩ : ByteArray).size = 1 := rfl
     have g1 : (⟨#[32]⟩ : ByteArray).size + ty.size ≤ 9223372036854775807 := by omega
     have HLA2 := hide (show acc2.size + (⟨#[32]⟩ ++ ty).size ≤ 140737488355328 from by have := HSa.out; have := HRz.out; rw [ByteArray.size_append]; omega)
     clear hy hyi hty l2 hys
     have hki2 : (k2 : Int) < nt := by omega
     go_wp2_with (first
      | (go_at_call 102; (with_reducible refine HIY.out.mono ?_); rintro e _ ⟨rfl, u3, rfl⟩)
      | (simp only [run_string_add_sum _ _ _ g1])
      | (at_builtin; (refine wpList_text28 rfl (.tmp 40) (.tmp 47) rfl b _ acc2 W0 rfl (HDa.out.ext _) _ rfl HLA2.out ?_); intro v5 W5 hd5 hg5; have HD5 := hide hd5; have HR5 := hide (tile_kept28 (HDa.out.ext _) HRa.out hg5); clear hd5 hg5))
     go_roundw
     case rel => exact ⟨_, k2 + 1, _, rfl, by go_num, by omega, HD5.out, HE2.out, HR5.out⟩
     case measure => simp [intOf]; omega
    ·have HE3 := hide (show acc2 ++ ⟨#[10]⟩ = R from by have h := HEa.out; rw [drop_end HSB.out.len hlt2] at h; rw [← tail_nil]; exact h)
     have hla2 : acc2.size + 1 ≤ 140737488355328 := by have := HSa.out; have := HRz.out; omega
     go_wp2_with (at_builtin; refine wpList_nl28 rfl (.tmp 49) (.tmp 50) rfl b v2 acc2 W0 rfl HDa.out rfl hla2 ?_; intro v5 W5 hd5; have HD5 := hide hd5; clear hd5)
     go_roundw
     case rel => exact ⟨_, k1 + 1, R, rfl, by go_num, by omega, by rw [← HE3.out]; exact HD5.out, HLN.out, HSZR.out⟩
     case measure => simp [intOf]; omega
  ·have HACC := hide (show acc = T0 from by have h := HLI.out; rw [drop_end HS.out.len hlt] at h; exact h)
   have HSZ0 := hide (show acc.size ≤ 1000000 from by have := HSZ.out; omega)
   have HT1' := hide (show linesB acc (fl.map edgeP) = T1 from by rw [HACC.out]; exact HT1.out)
   clear HACC HLI HSZ
   go_wp2_with fail
   clear a0 al
   go_loopw [3, 7] (fun vv i wr => ∃ (v : Value) (k1 : Nat) (acc : ByteArray), v = vv ∧ i = .int .i64 k1 ∧ k1 ≤ m ∧ DBf b v acc W0 wr ∧ linesB acc ((fl.drop k1).map edgeP) = T1 ∧ acc.size ≤ 1000000 + 60000 * k1) (fun _ i _ => m - (intOf i).toNat)
   case atStart => exact ⟨_, 0, acc, rfl, rfl, Nat.zero_le _, HD.out, HT1'.out, by have := HSZ0.out; omega⟩
   case round =>
    clear hlt hk HD HSZ0 HT1'
    obtain ⟨v3, k3, acc3, rfl, rfl, hk, hd, hli, hsz⟩ := hrel
    obtain ⟨wq, hwq⟩ : ∃ V, V = wr := ⟨_, rfl⟩
    subst hwq
    have HD := hide hd; have HLI := hide hli; have HSZ := hide hsz
    clear hd hli hsz
    have a1 := HKEEP.out _ HD.out.below _ _ _ hCb HA1.out
    have al : C < wq.heap.size := by have := HD.out.le; omega
    by_cases hlt : k3 < m
    ·obtain ⟨bb, off, l, Al, nl, cl, hA, hbb, hx, hs1, c0⟩ := at_factRow HS2.out hlt
     have HX := hide (drop_at hx)
     have HRI := hide (rowOk_in (HF.out.fs l (mem_at hx)))
     have HFI := hide (show ∀ f ∈ l, FactIn f from fun f hf => factOk_in (HRI.out.1 f hf))
     have HSB := hide hs1
     have hnl : nl ≤ 600 := by rw [← hs1.len]; exact HRI.out.2
     subst hA
     have hbb2 : bb < b := by have := HBQ.out; omega
     have HC0 := hide c0
     obtain ⟨Ln, hLn⟩ : ∃ q, lineB (edgeP l) = q := ⟨_, rfl⟩
     have hps : Ln.size ≤ 60000 := hLn ▸ line_edge_sz HFI.out HRI.out.2
     obtain ⟨R, hR⟩ : ∃ R, acc3 ++ Ln = R := ⟨_, rfl⟩
     have HLN := hide (show linesB R ((fl.drop (k3 + 1)).map edgeP) = T1 from by
      have h := HLI.out
      rw [HX.out, List.map_cons, linesB_cons, hLn, hR] at h
      exact h)
     have HSZR := hide (show R.size ≤ 1000000 + 60000 * (k3 + 1) from by have := HSZ.out; rw [← hR, ByteArray.size_append]; omega)
     have HRz := hide (show R.size ≤ 100000000 from Nat.le_trans HSZR.out (by omega))
     have HRE := hide (show acc3 ++ tEdge ++ tailW ((factsP true l).map ptB) ++ ⟨#[10]⟩ = R from by rw [← hR, ← hLn, line_edge]; simp only [ByteArray.append_assoc])
     have HLA := hide (show acc3.size + (⟨#[101, 100, 103, 101]⟩ : ByteArray).size ≤ 140737488355328 from by have := HSZ.out; show _ + 4 ≤ _; omega)
     clear hx hs1 c0 hLn hps hR
     go_wp2_with (at_builtin; refine wpList_text28 rfl (.tmp 59) _ rfl b v3 acc3 W0 rfl HD.out _ rfl HLA.out ?_; intro v4 W4 hd4 hg4; have HD4 := hide hd4; clear hd4 hg4)
     clear a1 al
     go_loopw [3, 8] (fun vv i wr => ∃ (v : Value) (k2 : Nat) (acc2 : ByteArray), v = vv ∧ i = .int .i64 k2 ∧ k2 ≤ nl ∧ DBf b v acc2 W0 wr ∧ acc2 ++ tailW ((factsP (decide (k2 = 0)) (l.drop k2)).map ptB) ++ ⟨#[10]⟩ = R) (fun _ i _ => nl - (intOf i).toNat)
     case atStart => exact ⟨_, 0, _, rfl, rfl, Nat.zero_le _, HD4.out, HRE.out⟩
     case round =>
      obtain ⟨v5, k2, acc2, rfl, rfl, hk2, hd, he⟩ := hrel
      obtain ⟨wr2, hwr2⟩ : ∃ V, V = wr := ⟨_, rfl⟩
      subst hwr2
      have HDa := hide hd; have HEa := hide he
      have HSa := hide (show acc2.size ≤ R.size from by rw [← he]; simp only [ByteArray.size_append]; omega)
      have a1 := HKEEP.out _ HDa.out.below _ _ _ hCb HA1.out
      have al : C < wr2.heap.size := by have := HDa.out.le; omega
      have c0 := HKEEP.out _ HDa.out.below _ _ _ hbb2 HC0.out
      have cl0 : bb < wr2.heap.size := by have := HDa.out.le; omega
      have hki : (k3 : Int) < m := by omega
      clear hd he
      by_cases hlt2 : k2 < nl
      ·obtain ⟨b2, off2, y, hA2, hb2, hy, hy1, hy2, d0, d1, d2⟩ := at_Fact HSB.out hlt2
       subst hA2
       have hb3 : b2 < b := by have := HBQ.out; omega
       have HQ0 := hide d0; have HQ1 := hide d1; have HQ2 := hide d2
       replace d0 := HKEEP.out _ HDa.out.below _ _ _ hb3 d0
       replace d1 := HKEEP.out _ HDa.out.below _ _ _ hb3 d1
       replace d2 := HKEEP.out _ HDa.out.below _ _ _ hb3 d2
       have bl2 : b2 < wr2.heap.size := by have := HDa.out.le; omega
       have HYI := hide (HFI.out y (mem_at hy))
       have HWR := hide (fun (W : World) (hW : VarsP W) => dwritten28_any W y hW HYI.out)
       have hys := written_sz HYI.out
       have HDY := hide (drop_at hy)
       obtain ⟨ty, hty⟩ : ∃ q, writtenB y = q := ⟨_, rfl⟩
       have HTY := hide hty
       obtain ⟨vy, ⟨sy, ny⟩⟩ := y
       dsimp only at d0 d1 d2 hy1 hy2 HQ0 HQ1 HQ2
       rw [hty] at HWR hys
       replace HWR := hide (show ∀ (W : World), VarsP W → Calls Tryz.prog 103 #[.agg #[.int .i64 vy, .bool sy, .int .i64 ny]] W (RetX (.string ty) W) from HWR.out)
       have l2 : (⟨#[32]⟩ : ByteArray).size = 1 := rfl
       have l3 : (⟨#[32, 44]⟩ : ByteArray).size = 2 := rfl
       have g1 : (⟨#[32]⟩ : ByteArray).size + ty.size ≤ 9223372036854775807 := by omega
       have HLA2 := hide (show acc2.size + (⟨#[32]⟩ ++ ty).size ≤ 140737488355328 from by have := HSa.out; have := HRz.out; rw [ByteArray.size_append]; omega)
       have HLA3 := hide (show acc2.size + (⟨#[32, 44]⟩ : ByteArray).size ≤ 140737488355328 from by have := HSa.out; have := HRz.out; omega)
       have HLA4 := hide (show (acc2 ++ ⟨#[32, 44]⟩).size + (⟨#[32]⟩ ++ ty).size ≤ 140737488355328 from by have := HSa.out; have := HRz.out; rw [ByteArray.size_append, ByteArray.size_append]; omega)
       clear hy hty l2 l3 hys hy1 hy2
       have hki2 : (k2 : Int) < nl := by omega
       by_cases hk0 : k2 = 0
       ·have HE2 := hide (show (acc2 ++ (⟨#[32]⟩ ++ ty)) ++ tailW ((factsP (decide (k2 + 1 = 0)) (l.drop (k2 + 1))).map ptB) ++ ⟨#[10]⟩ = R from by
         rw [show decide (k2 + 1 = 0) = false by simp, ← HTY.out, ← tail_fact1, ← HDY.out]
         have h := HEa.out
         rw [decide_eq_true hk0] at h
         exact h)
        have hz2 : decide (0 < k2) = false := by simp; omega
        have HVA := hide (HV.out.below HDa.out.below HGB.out)
        clear hk0
        go_wp2_with (first
         | (go_at_call 103; (with_reducible refine (HWR.out _ HVA.out).mono ?_); rintro e _ ⟨rfl, u3, rfl⟩)
         | (simp only [run_string_add_sum _ _ _ g1])
         | (at_builtin; refine wpList_text28 rfl (.tmp 75) (.tmp 85) rfl b v5 acc2 W0 rfl (HDa.out.ext _) _ rfl HLA2.out ?_; intro v6 W5 hd5 hg5; have HD5 := hide hd5; clear hd5 hg5))
        go_roundw
        case rel => exact ⟨_, k2 + 1, _, rfl, by go_num, by omega, HD5.out, HE2.out⟩
        case measure => simp [intOf]; omega
       ·have HE2 := hide (show ((acc2 ++ ⟨#[32, 44]⟩) ++ (⟨#[32]⟩ ++ ty)) ++ tailW ((factsP (decide (k2 + 1 = 0)) (l.drop (k2 + 1))).map ptB) ++ ⟨#[10]⟩ = R from by
         rw [show decide (k2 + 1 = 0) = false by simp, ← HTY.out, ← tail_fact2, ← HDY.out]
         have h := HEa.out
         rw [decide_eq_false hk0] at h
         exact h)
        have hz2 : decide (0 < k2) = true := by simp; omega
        clear hk0
        go_upto_region 21 with (at_builtin; refine wpList_text28 rfl (.tmp 73) _ rfl b v5 acc2 W0 rfl HDa.out _ rfl HLA3.out ?_; intro v6 W5 hd5 hg5; have HD5 := hide hd5; clear hd5 hg5)
        clear a1 al c0 cl0 d0 d1 d2 bl2
        have a1 := HKEEP.out _ HD5.out.below _ _ _ hCb HA1.out
        have al : C < W5.heap.size := by have := HD5.out.le; omega
        have c0 := HKEEP.out _ HD5.out.below _ _ _ hbb2 HC0.out
        have cl0 : bb < W5.heap.size := by have := HD5.out.le; omega
        have d0 := HKEEP.out _ HD5.out.below _ _ _ hb3 HQ0.out
        have d1 := HKEEP.out _ HD5.out.below _ _ _ hb3 HQ1.out
        have d2 := HKEEP.out _ HD5.out.below _ _ _ hb3 HQ2.out
        have bl2 : b2 < W5.heap.size := by have := HD5.out.le; omega
        have HVA := hide (HV.out.below HD5.out.below HGB.out)
        go_wp2_with (first
         | (go_at_call 103; (with_reducible refine (HWR.out _ HVA.out).mono ?_); rintro e _ ⟨rfl, u3, rfl⟩)
         | (simp only [run_string_add_sum _ _ _ g1])
         | (at_builtin; refine wpList_text28 rfl (.tmp 75) (.tmp 85) rfl b v6 _ W0 rfl (HD5.out.ext _) _ rfl HLA4.out ?_; intro v7 W6 hd6 hg6; have HD6 := hide hd6; clear hd6 hg6))
        go_roundw
        case rel => exact ⟨_, k2 + 1, _, rfl, by go_num, by omega, HD6.out, HE2.out⟩
        case measure => simp [intOf]; omega
      ·have HE3 := hide (show acc2 ++ ⟨#[10]⟩ = R from by have h := HEa.out; rw [drop_end HSB.out.len hlt2, factsP_nil] at h; rw [← tail_nil]; exact h)
       have hla2 : acc2.size + 1 ≤ 140737488355328 := by have := HSa.out; have := HRz.out; omega
       go_wp2_with (at_builtin; refine wpList_nl28 rfl (.tmp 87) (.tmp 88) rfl b v5 acc2 W0 rfl HDa.out rfl hla2 ?_; intro v6 W5 hd5; have HD5 := hide hd5; clear hd5)
       go_roundw
       case rel => exact ⟨_, k3 + 1, R, rfl, by go_num, by omega, by rw [← HE3.out]; exact HD5.out, HLN.out, HSZR.out⟩
       case measure => simp [intOf]; omega
    ·have HACC := hide (show acc3 = T1 from by have h := HLI.out; rw [drop_end HS2.out.len hlt] at h; exact h)
     have hcv := HD.out.str
     go_wp2_with (simp only [hcv])
     go_ret
     exact ⟨by rw [← HACC.out]; rfl, Below.to_ext ((HB0.out.mono (Nat.le_refl _)).trans (HD.out.below.mono (by have := HCQ.out; omega)))⟩
end Go.Proofs.YtppkanniefignaaGreatDoor
