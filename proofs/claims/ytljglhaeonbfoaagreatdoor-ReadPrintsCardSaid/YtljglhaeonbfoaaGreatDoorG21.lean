/- law04: plain: the document's lines are the lines of words. law04: plain: the document's text is the text of lines. -/
import Derived.Test.YtljglhaeonbfoaaGreatDoorG19
set_option linter.unusedSimpArgs false
set_option linter.unusedVariables false
namespace Go.Proofs.YtljglhaeonbfoaaGreatDoor
def docVar (v : Int) : ByteArray := ⟨#[118]⟩ ++ itoaB v
theorem docVar_vr {v : Int} (h : vOk v = true) : docVar v = (vrW v).text := by
 obtain ⟨h1, h2⟩ := vOk_in h
 apply bytes_ext
 rw [← ByteArray.toList_eq, show (vrW v).text = keyB 118 v.toNat from rfl, ← ByteArray.toList_eq, key_list]
 unfold docVar itoaB Lib.itoa
 rw [if_neg (by omega), ByteArray.toList_eq, ByteArray.data_append, Array.toList_append]
 simp
def docAll (s : ByteArray) (l : List Int) : ByteArray := l.foldl (fun s v => (s ++ ⟨#[32]⟩) ++ docVar v) s ++ ⟨#[10]⟩
def docLeft (d : Int) : ByteArray := if d ≠ 0 then docVar d ++ ⟨#[32, 226, 134, 144, 32]⟩ else ByteArray.empty
def docIns (i : Ins) : ByteArray :=
 if i.op = 1 then ((docLeft i.dst ++ ⟨#[99, 111, 110, 115, 116, 32]⟩) ++ itoaB i.imm) ++ ⟨#[10]⟩
 else if i.op = 11 then ((((docLeft i.dst ++ ⟨#[108, 111, 97, 100, 32]⟩) ++ docVar i.a) ++ ⟨#[32]⟩) ++ itoaB i.imm) ++ ⟨#[10]⟩
 else if i.op = 12 then (((((⟨#[115, 116, 111, 114, 101, 32]⟩ ++ docVar i.a) ++ ⟨#[32]⟩) ++ itoaB i.imm) ++ ⟨#[32]⟩) ++ docVar i.b) ++ ⟨#[10]⟩
 else if i.op = 13 then docAll ((docLeft i.dst ++ ⟨#[99, 97, 108, 108, 32]⟩) ++ itoaB i.callee) i.args
 else if i.op = 14 then (docLeft i.dst ++ docVar i.a) ++ ⟨#[10]⟩
 else (((((docLeft i.dst ++ opT i.op) ++ ⟨#[32]⟩) ++ docVar i.a) ++ ⟨#[32]⟩) ++ docVar i.b) ++ ⟨#[10]⟩
def docTerm (t : Term) : ByteArray :=
 if t.kind = 1 then (⟨#[226, 134, 146, 32]⟩ ++ itoaB t.to0) ++ ⟨#[10]⟩
 else if t.kind = 2 then ((((docVar t.a ++ ⟨#[32, 226, 134, 146, 32]⟩) ++ itoaB t.to0) ++ ⟨#[32]⟩) ++ itoaB t.to1) ++ ⟨#[10]⟩
 else if t.kind = 3 then docAll tReturn (if t.a = 0 then [] else [t.a])
 else ⟨#[116, 114, 97, 112, 10]⟩
theorem cConst : (⟨#[99, 111, 110, 115, 116, 32]⟩ : ByteArray) = tConst ++ ⟨#[32]⟩ := by decide +kernel
theorem cLoad : (⟨#[108, 111, 97, 100, 32]⟩ : ByteArray) = tLoad ++ ⟨#[32]⟩ := by decide +kernel
theorem cStore : (⟨#[115, 116, 111, 114, 101, 32]⟩ : ByteArray) = tStore ++ ⟨#[32]⟩ := by decide +kernel
theorem cCall : (⟨#[99, 97, 108, 108, 32]⟩ : ByteArray) = tCall ++ ⟨#[32]⟩ := by decide +kernel
theorem cLeft : (⟨#[32, 226, 134, 144, 32]⟩ : ByteArray) = ⟨#[32]⟩ ++ (tLeft ++ ⟨#[32]⟩) := by decide +kernel
theorem cArrow : (⟨#[226, 134, 146, 32]⟩ : ByteArray) = tArrow ++ ⟨#[32]⟩ := by decide +kernel
theorem cArrow2 : (⟨#[32, 226, 134, 146, 32]⟩ : ByteArray) = ⟨#[32]⟩ ++ (tArrow ++ ⟨#[32]⟩) := by decide +kernel
theorem cTrap : (⟨#[116, 114, 97, 112, 10]⟩ : ByteArray) = tTrap ++ ⟨#[10]⟩ := by decide +kernel
theorem docFold : ∀ (l : List Int) (s : ByteArray), (∀ x ∈ l, vOk x = true) → l.foldl (fun s v => (s ++ ⟨#[32]⟩) ++ docVar v) s = s ++ tailX ((l.map vrW).map (·.text))
 | [], s, _ => by show s = s ++ ByteArray.empty; rw [ByteArray.append_empty]
 | v :: l, s, h => by
  rw [List.foldl_cons, docFold l _ fun x hx => h x (List.mem_cons_of_mem _ hx), docVar_vr (h v (by simp))]
  show _ = s ++ ((⟨#[32]⟩ ++ (vrW v).text) ++ tailX ((l.map vrW).map (·.text)))
  simp only [ByteArray.append_assoc]
theorem docAll_eq (s : ByteArray) {l : List Int} (h : ∀ x ∈ l, vOk x = true) : docAll s l = (s ++ tailX ((l.map vrW).map (·.text))) ++ ⟨#[10]⟩ := by unfold docAll; rw [docFold l s h]
theorem docLeft_eq {d : Int} (h : d ≠ 0 → vOk d = true) (w : Word) (l : List Word) : joinX ((leftWs d ++ w :: l).map (·.text)) = docLeft d ++ (w.text ++ tailX (l.map (·.text))) := by
 unfold leftWs docLeft
 by_cases hd : d ≠ 0
 ·rw [if_pos hd, if_pos hd, docVar_vr (h hd), cLeft]
  show (vrW d).text ++ ((⟨#[32]⟩ ++ tLeft) ++ ((⟨#[32]⟩ ++ w.text) ++ tailX (l.map (·.text)))) = _
  simp only [ByteArray.append_assoc]
 ·rw [if_neg hd, if_neg hd, ByteArray.empty_append]
  rfl
theorem docIns_line {i : Ins} (h : InsR i) : docIns i = lineX (insWs i) := by
 obtain ⟨⟨o1, o2⟩, hm, hcall, hno, hdst, hdst0, ha, ha0, hb, hb0, himm, himm0⟩ := h
 unfold docIns insWs lineX
 by_cases e1 : i.op = 1
 ·rw [if_pos e1, if_pos e1, docLeft_eq (fun _ => hdst (by omega) (by omega)), cConst]
  simp only [List.map_cons, List.map_nil, tailX, ByteArray.append_assoc, ByteArray.append_empty, ByteArray.empty_append]
 rw [if_neg e1, if_neg e1]
 by_cases e2 : i.op = 11
 ·rw [if_pos e2, if_pos e2, docLeft_eq (fun _ => hdst (by omega) (by omega)), cLoad, docVar_vr (ha (by omega) (by omega))]
  simp only [List.map_cons, List.map_nil, tailX, ByteArray.append_assoc, ByteArray.append_empty, ByteArray.empty_append]
 rw [if_neg e2, if_neg e2]
 by_cases e3 : i.op = 12
 ·rw [if_pos e3, if_pos e3, cStore, docVar_vr (ha (by omega) (by omega)), docVar_vr (hb (by omega) (.inr e3))]
  simp only [List.map_cons, List.map_nil, joinX, tailX, ByteArray.append_assoc, ByteArray.append_empty, ByteArray.empty_append]
 rw [if_neg e3, if_neg e3]
 by_cases e4 : i.op = 13
 ·obtain ⟨_, _, _, c1, c2, hd, l1, l2⟩ := hcall e4
  rw [if_pos e4, if_pos e4, docLeft_eq hd, cCall, docAll_eq _ l2]
  simp only [List.map_cons, List.map_nil, tailX, ByteArray.append_assoc, ByteArray.append_empty, ByteArray.empty_append]
 rw [if_neg e4, if_neg e4]
 by_cases e5 : i.op = 14
 ·rw [if_pos e5, if_pos e5, docLeft_eq (fun _ => hdst (by omega) (by omega)), docVar_vr (ha (by omega) (by omega))]
  simp only [List.map_cons, List.map_nil, tailX, ByteArray.append_assoc, ByteArray.append_empty, ByteArray.empty_append]
 rw [if_neg e5, if_neg e5, docLeft_eq (fun _ => hdst (by omega) (by omega)), docVar_vr (ha (by omega) (by omega)), docVar_vr (hb (by omega) (.inl (by omega)))]
 simp only [List.map_cons, List.map_nil, tailX, ByteArray.append_assoc, ByteArray.append_empty, ByteArray.empty_append]
theorem docTerm_line {t : Term} (h : TermR t) : docTerm t = lineX (termWs t) := by
 obtain ⟨⟨k1, k2⟩, hj, hb, hr, ht, ⟨x1, x2⟩, ⟨y1, y2⟩⟩ := h
 unfold docTerm termWs lineX
 by_cases e1 : t.kind = 1
 ·rw [if_pos e1, if_pos e1, cArrow]
  simp only [List.map_cons, List.map_nil, joinX, tailX, ByteArray.append_assoc, ByteArray.append_empty, ByteArray.empty_append]
 rw [if_neg e1, if_neg e1]
 by_cases e2 : t.kind = 2
 ·rw [if_pos e2, if_pos e2, cArrow2, docVar_vr (hb e2)]
  simp only [List.map_cons, List.map_nil, joinX, tailX, ByteArray.append_assoc, ByteArray.append_empty, ByteArray.empty_append]
 rw [if_neg e2, if_neg e2]
 by_cases e3 : t.kind = 3
 ·rw [if_pos e3, if_pos e3]
  by_cases ha : t.a = 0
  ·rw [if_pos ha, if_pos ha, docAll_eq _ (fun _ h => by cases h)]
   simp only [List.map_cons, List.map_nil, joinX, tailX, ByteArray.append_assoc, ByteArray.append_empty, ByteArray.empty_append]
  ·rw [if_neg ha, if_neg ha, docAll_eq _ (fun x h => by obtain rfl := List.mem_singleton.1 h; exact (hr e3).1 ha)]
   simp only [List.map_cons, List.map_nil, joinX, tailX, ByteArray.append_assoc, ByteArray.append_empty, ByteArray.empty_append]
 ·rw [if_neg e3, if_neg e3, cTrap]
  simp only [List.map_cons, List.map_nil, joinX, tailX, ByteArray.append_assoc, ByteArray.append_empty, ByteArray.empty_append]
end Go.Proofs.YtljglhaeonbfoaaGreatDoor
namespace Go.Proofs.YtljglhaeonbfoaaGreatDoor
def docBlocks : ByteArray → Nat → List Block → ByteArray
 | out, _, [] => out
 | out, n, b :: l => docBlocks (b.ins.foldl (fun o i => o ++ docIns i) (((out ++ ⟨#[98, 108, 111, 99, 107, 32]⟩) ++ itoaB n) ++ ⟨#[10]⟩) ++ docTerm b.term) (n + 1) l
def docPrint (f : Fnc) : ByteArray := docBlocks (docAll tFun f.params) 0 f.blocks
theorem cBlock : (⟨#[98, 108, 111, 99, 107, 32]⟩ : ByteArray) = tBlock ++ ⟨#[32]⟩ := by decide +kernel
theorem docIns_lines : ∀ (l : List Ins) (out : ByteArray), (∀ i ∈ l, InsR i) → l.foldl (fun o i => o ++ docIns i) out = linesX out (l.map insWs)
 | [], _, _ => rfl
 | i :: l, out, h => by
  rw [List.foldl_cons, docIns_lines l _ fun j hj => h j (List.mem_cons_of_mem _ hj), docIns_line (h i (by simp))]
  rfl
theorem docBlocks_lines : ∀ (l : List Block) (n : Nat) (out : ByteArray), (∀ b ∈ l, BlockR b) → docBlocks out n l = linesX out (blocksWs n l)
 | [], _, _, _ => rfl
 | b :: l, n, out, h => by
  have hb := h b (by simp)
  show docBlocks (b.ins.foldl (fun o i => o ++ docIns i) (((out ++ ⟨#[98, 108, 111, 99, 107, 32]⟩) ++ itoaB n) ++ ⟨#[10]⟩) ++ docTerm b.term) (n + 1) l = linesX out (blockWs n b ++ blocksWs (n + 1) l)
  have e : ((out ++ ⟨#[98, 108, 111, 99, 107, 32]⟩) ++ itoaB n) ++ ⟨#[10]⟩ = out ++ lineX [nmW tBlock, nuW n] := by
   rw [cBlock]
   unfold lineX
   simp only [List.map_cons, List.map_nil, joinX, tailX, ByteArray.append_assoc, ByteArray.append_empty, ByteArray.empty_append]
  rw [docBlocks_lines l (n + 1) _ fun x hx => h x (List.mem_cons_of_mem _ hx), linesX_app, docIns_lines _ _ hb.i, docTerm_line hb.t, e]
  unfold blockWs
  show _ = linesX (linesX (out ++ lineX [nmW tBlock, nuW n]) (b.ins.map insWs ++ [termWs b.term])) _
  rw [linesX_app]
  rfl
theorem docPrint_show {f : Fnc} (h : FncR f) : docPrint f = show04 f := by
 unfold docPrint
 rw [docAll_eq _ h.p, docBlocks_lines _ _ _ h.b]
 unfold show04 fnWs
 show _ = linesX (ByteArray.empty ++ lineX (nmW tFun :: f.params.map vrW)) (blocksWs 0 f.blocks)
 rw [ByteArray.empty_append]
 rfl
end Go.Proofs.YtljglhaeonbfoaaGreatDoor
