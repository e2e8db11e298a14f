/- law28: plain: what is printed is read: the words of a text that is printed. law28: plain: what is printed is read: every word of a certificate that fits may be shown. law28: plain: what is printed is read: the words are read. law28: plain: what is printed is read: rows, tiles, edges. law28: plain: what is printed is read: cursors that differ in places alone tell the same certificate. -/
import Derived.Test.YtppkanniefignaaGreatDoorG27
import Derived.Test.YtppkanniefignaaGreatDoorG36
import Derived.Test.YtppkanniefignaaGreatDoorB28
set_option linter.unusedSimpArgs false
set_option linter.unusedVariables false
namespace Go.Proofs.YtppkanniefignaaGreatDoor
open Go.RowKit
abbrev nm28 (t : ByteArray) : Word := ⟨1, t, 0, 0, 0⟩
abbrev nu28 (n : Int) : Word := ⟨2, itoaB n, n, 0, 0⟩
abbrev mk28 (t : ByteArray) : Word := ⟨3, t, 0, 0, 0⟩
abbrev eol28 : Word := ⟨4, ByteArray.empty, 0, 0, 0⟩
/-- A part as a word. -/
def ptW : Pt → Word
  | .str s => if s.size = 1 then mk28 s else nm28 s
  | .int n => nu28 n
  | .nm x => nm28 (ptB (.nm x))
/-- A word that may stand in a line: right, no line's end, and of the part's text. -/
structure PtOk (p : Pt) : Prop where
  r : rightW (ptW p) = true
  t : (ptW p).text = ptB p
  k : (ptW p).kind ≠ 4
/-- The words of lines. -/
def wsL : List (List Pt) → List Word
  | [] => []
  | p :: l => p.map ptW ++ (eol28 :: wsL l)
theorem right_eol28 : rightW eol28 = true := by decide +kernel
theorem show_tail28 : ∀ (ps : List Pt) (l : List Word) (out : ByteArray), (∀ p ∈ ps, PtOk p) → showF false (ps.map ptW ++ l) out = showF false l (out ++ tailW (ps.map ptB))
  | [], l, out, _ => by show showF false l out = showF false l (out ++ ByteArray.empty); rw [ByteArray.append_empty]
  | p :: ps, l, out, h => by
    have hp := h p (by simp)
    rw [List.map_cons, List.cons_append, showF_cons, if_neg (by rw [hp.r]; decide), if_neg hp.k, if_neg (by decide), show_tail28 ps l _ fun q hq => h q (List.mem_cons_of_mem _ hq), hp.t]
    show showF false l (_ ++ tailW (ps.map ptB)) = showF false l (out ++ ((⟨#[32]⟩ ++ ptB p) ++ tailW (ps.map ptB)))
    simp only [ByteArray.append_assoc]
theorem show_line28 (ps : List Pt) (l : List Word) (out : ByteArray) (hne : ps ≠ []) (h : ∀ p ∈ ps, PtOk p) : showF true (ps.map ptW ++ (eol28 :: l)) out = showF true l (out ++ lineB ps) := by
  cases ps with
  | nil => exact absurd rfl hne
  | cons p ps =>
    have hp := h p (by simp)
    rw [List.map_cons, List.cons_append, showF_cons, if_neg (by rw [hp.r]; decide), if_neg hp.k, if_pos rfl, show_tail28 ps _ _ fun q hq => h q (List.mem_cons_of_mem _ hq), hp.t]
    rw [showF_cons, if_neg (by rw [right_eol28]; decide), if_pos rfl]
    show showF true l _ = showF true l (out ++ ((ptB p ++ tailW (ps.map ptB)) ++ ⟨#[10]⟩))
    simp only [ByteArray.append_assoc]
theorem show_lines28 : ∀ (L : List (List Pt)) (acc : ByteArray), (∀ ps ∈ L, ps ≠ [] ∧ ∀ p ∈ ps, PtOk p) → showF true (wsL L) acc = some (linesB acc L)
  | [], acc, _ => rfl
  | ps :: L, acc, h => by
    have hp := h ps (by simp)
    show showF true (ps.map ptW ++ (eol28 :: wsL L)) acc = _
    rw [show_line28 ps _ _ hp.1 hp.2, show_lines28 L _ fun q hq => h q (List.mem_cons_of_mem _ hq)]
    rfl
theorem lines_app28 : ∀ (a b : List (List Pt)) (acc : ByteArray), linesB acc (a ++ b) = linesB (linesB acc a) b
  | [], _, _ => rfl
  | p :: a, b, acc => lines_app28 a b (acc ++ lineB p)
def linesC (c : Cert) : List (List Pt) := c.tiles.map tileP ++ c.facts.map edgeP
theorem show_cert28 {c : Cert} (h : ∀ ps ∈ linesC c, ps ≠ [] ∧ ∀ p ∈ ps, PtOk p) : showF true (wsL (linesC c)) ByteArray.empty = some (showB c) := by
  rw [show_lines28 _ _ h]
  unfold linesC showB
  rw [lines_app28]
/-! ### the parts -/
theorem ok_int28 {n : Int} (h1 : -1000000 ≤ n) (h2 : n ≤ 1000000) : PtOk (.int n) := by
  refine ⟨?_, rfl, by show (2 : Int) ≠ 4; decide⟩
  show rightW (nu28 n) = true
  unfold rightW
  simp
  omega
theorem ok_tile28 : PtOk (.str tTile) := ⟨by decide +kernel, by decide +kernel, by decide +kernel⟩
theorem ok_edge28 : PtOk (.str tEdge) := ⟨by decide +kernel, by decide +kernel, by decide +kernel⟩
theorem ok_colon28 : PtOk (.str tColon) := ⟨by decide +kernel, by decide +kernel, by decide +kernel⟩
theorem ok_comma28 : PtOk (.str tComma) := ⟨by decide +kernel, by decide +kernel, by decide +kernel⟩
theorem ok_eq28 : PtOk (.str tEq) := ⟨by decide +kernel, by decide +kernel, by decide +kernel⟩
theorem ok_kind28 {k : Nat} (h1 : 1 ≤ k) (h4 : k ≤ 4) : PtOk (.str (kindT k)) := by
  rcases (by omega : k = 1 ∨ k = 2 ∨ k = 3 ∨ k = 4) with rfl | rfl | rfl | rfl <;> exact ⟨by decide +kernel, by decide +kernel, by decide +kernel⟩
end Go.Proofs.YtppkanniefignaaGreatDoor
set_option linter.unusedSimpArgs false
set_option linter.unusedVariables false
namespace Go.Proofs.YtppkanniefignaaGreatDoor
open Go.RowKit
theorem key_runes28 {c : UInt8} (hc : c.toNat < 128) (n : Nat) : keyB c n = runesBytes (runesOf (c :: Lib.decDigits n)) := by
  apply bytes_ext
  rw [runesOf_bytes]
  · unfold keyB; simp
  · intro b hb
    rcases List.mem_cons.1 hb with rfl | hb
    · exact hc
    · exact (can_dec n).1.low b hb
theorem right_key28 {c : UInt8} (hc : c.toNat < 128) (hl : isL (c.toNat : Int) = true) {n : Nat} (hn : n < 1000) : rightW (nm28 (keyB c n)) = true := by
  have hld : ∀ x ∈ runesOf (c :: Lib.decDigits n), isLD x = true := by
    intro x hx
    rw [show runesOf (c :: Lib.decDigits n) = (c.toNat : Int) :: runesOf (Lib.decDigits n) from rfl] at hx
    rcases List.mem_cons.1 hx with rfl | hx
    · unfold isLD; rw [hl]; rfl
    · have := (can_dec n).1.isD x hx
      unfold isLD; rw [this]; simp
  have hi : items (keyB c n) 0 = runesOf (c :: Lib.decDigits n) := by
    rw [key_runes28 hc]
    exact items_of_runes _ fun x hx => LD_VR (hld x hx)
  unfold rightW
  rw [if_pos rfl]
  show ((0 : Int) == 0 && isNameR 0 (items (keyB c n) 0)) = true
  rw [hi, (isNameR_iff _ 0).2 ⟨fun _ => by show isL (c.toNat : Int) = true; exact hl, hld, by simp [runesOf], by
    have := dec_len4 hn
    simp only [runesOf, List.map_cons, List.length_cons, List.length_map]
    omega⟩]
  rfl
theorem ok_name28 {x : Nm} (h : NmOk x) : PtOk (.nm x) := by
  refine ⟨?_, rfl, by show (1 : Int) ≠ 4; decide⟩
  show rightW (nm28 (ptB (.nm x))) = true
  rw [ptB_key h]
  cases x with
  | var n =>
    rcases h with ⟨h1, h2⟩ | ⟨h1, h2⟩
    · rw [keyN_pos (by omega)]; exact right_key28 (by decide) (by decide) (by omega)
    · rw [keyN_neg (by omega)]; exact right_key28 (by decide) (by decide) (by omega)
  | loc l =>
    obtain ⟨s, n⟩ := l
    obtain ⟨h1, h2⟩ := h
    unfold keyN
    simp only at h1 h2 ⊢
    cases s with
    | true => rw [if_pos rfl] at h2 ⊢; exact right_key28 (by decide) (by decide) (by omega)
    | false => rw [if_neg (by decide)] at h2 ⊢; exact right_key28 (by decide) (by decide) (by omega)
theorem ok_tileP28 {t : Tile} (h : TileIn t) : tileP t ≠ [] ∧ ∀ p ∈ tileP t, PtOk p := by
  refine ⟨by unfold tileP; simp, fun p hp => ?_⟩
  have a1 := h.k1; have a2 := h.k4; have a3 := h.p1; have a4 := h.p2
  unfold tileP at hp
  rcases List.mem_append.1 hp with hp | hp
  · simp only [List.mem_cons, List.not_mem_nil, or_false] at hp
    rcases hp with rfl | rfl | rfl | rfl
    · exact ok_tile28
    · exact ok_kind28 (by omega) (by omega)
    · exact ok_int28 (by omega) (by omega)
    · exact ok_colon28
  · obtain ⟨b, hb, rfl⟩ := List.mem_map.1 hp
    have := h.b b hb
    exact ok_int28 (by omega) (by omega)
theorem ok_factP28 {f : Fact} (h : FactIn f) : ∀ p ∈ factP f, PtOk p := by
  intro p hp
  simp only [factP, List.mem_cons, List.not_mem_nil, or_false] at hp
  rcases hp with rfl | rfl | rfl
  · exact ok_name28 h.ok.1
  · exact ok_eq28
  · exact ok_name28 h.ok.2
theorem ok_factsP28 : ∀ (l : List Fact) (b : Bool), (∀ f ∈ l, FactIn f) → ∀ p ∈ factsP b l, PtOk p
  | [], b, _ => by cases b <;> exact fun _ h => (by cases h)
  | f :: l, b, h => by
    have ih := ok_factsP28 l false fun g hg => h g (List.mem_cons_of_mem _ hg)
    have hf := ok_factP28 (h f (by simp))
    cases b with
    | true =>
      intro p hp
      rcases List.mem_append.1 (show p ∈ factP f ++ factsP false l from hp) with hp | hp
      · exact hf p hp
      · exact ih p hp
    | false =>
      intro p hp
      rcases List.mem_cons.1 (show p ∈ Pt.str tComma :: (factP f ++ factsP false l) from hp) with rfl | hp
      · exact ok_comma28
      · rcases List.mem_append.1 hp with hp | hp
        · exact hf p hp
        · exact ih p hp
theorem ok_edgeP28 {l : List Fact} (h : ∀ f ∈ l, FactIn f) : edgeP l ≠ [] ∧ ∀ p ∈ edgeP l, PtOk p := by
  refine ⟨by unfold edgeP; simp, fun p hp => ?_⟩
  rcases List.mem_cons.1 (show p ∈ Pt.str tEdge :: factsP true l from hp) with rfl | hp
  · exact ok_edge28
  · exact ok_factsP28 l true h p hp
theorem ok_cert28 {c : Cert} (h : fitsB c = true) : ∀ ps ∈ linesC c, ps ≠ [] ∧ ∀ p ∈ ps, PtOk p := by
  have hf := fits_in h
  intro ps hp
  rcases List.mem_append.1 hp with hp | hp
  · obtain ⟨t, ht, rfl⟩ := List.mem_map.1 hp
    exact ok_tileP28 (tileOk_in (hf.ts t ht))
  · obtain ⟨l, hl, rfl⟩ := List.mem_map.1 hp
    exact ok_edgeP28 fun f hf' => factOk_in ((rowOk_in (hf.fs l hl)).1 f hf')

/-! ### the words that the cursor has -/
/-- What is behind a line: its end, and more lines; or nothing. -/
def wsE (f : List (List Pt) → List Word) : List (List Pt) → List Word
  | [] => []
  | p :: l => eol28 :: f (p :: l)
def wsR : List (List Pt) → List Word
  | [] => []
  | p :: l => p.map ptW ++ (match l with | [] => [] | q :: m => eol28 :: wsR (q :: m))
theorem wsR_cons (p : List Pt) (l : List (List Pt)) : wsR (p :: l) = p.map ptW ++ wsE wsR l := by cases l <;> rfl
theorem end_ptW28 (p : Pt) : endW (ptW p) = false := by
  cases p with
  | str s => show endW (if s.size = 1 then mk28 s else nm28 s) = false; split <;> rfl
  | int n => rfl
  | nm x => rfl
theorem compK_core28 : ∀ (a b : List Word) (c : Bool), a.map core = b.map core → (compK c a).map core = (compK c b).map core ∧ lastE c a = lastE c b
  | [], [], _, _ => ⟨rfl, rfl⟩
  | [], _ :: _, _, h => by cases h
  | _ :: _, [], _, h => by cases h
  | x :: a, y :: b, c, h => by
    rw [List.map_cons, List.map_cons] at h
    injection h with h1 h2
    have he := core_end h1
    obtain ⟨i1, i2⟩ := compK_core28 a b (endW y) h2
    refine ⟨?_, ?_⟩
    · rw [compK_cons, compK_cons, he]
      by_cases hc : c = true ∧ endW y = true
      · rw [if_pos hc, if_pos hc]
        exact (compK_core28 a b true h2).1
      · rw [if_neg hc, if_neg hc, List.map_cons, List.map_cons, h1, i1]
    · show lastE (endW x) a = lastE (endW y) b
      rw [he]
      exact i2
theorem compK_words28 : ∀ (ps : List Pt) (l : List Word), (∀ p ∈ ps, PtOk p) → compK false (ps.map ptW ++ l) = ps.map ptW ++ compK false l
  | [], l, _ => rfl
  | p :: ps, l, h => by
    have hp := end_ptW28 p
    rw [List.map_cons, List.cons_append, compK_cons, if_neg (by rw [hp]; simp), hp, compK_words28 ps l fun q hq => h q (List.mem_cons_of_mem _ hq)]
    rfl
theorem compK_lines28 : ∀ (L : List (List Pt)), (∀ ps ∈ L, ps ≠ [] ∧ ∀ p ∈ ps, PtOk p) → compK true (wsL L) = wsL L
  | [], _ => rfl
  | ps :: L, h => by
    obtain ⟨hne, hp⟩ := h ps (by simp)
    have ih := compK_lines28 L fun q hq => h q (List.mem_cons_of_mem _ hq)
    cases ps with
    | nil => exact absurd rfl hne
    | cons p ps =>
      have hpe := end_ptW28 p
      show compK true (ptW p :: (ps.map ptW ++ (eol28 :: wsL L))) = ptW p :: (ps.map ptW ++ (eol28 :: wsL L))
      rw [compK_cons, if_neg (by rw [hpe]; simp), hpe, compK_words28 ps _ fun q hq => hp q (List.mem_cons_of_mem _ hq), compK_cons, if_neg (by simp)]
      rw [show endW eol28 = true from rfl, ih]
theorem wsL_last28 : ∀ (p : List Pt) (L : List (List Pt)), wsL (p :: L) = wsR (p :: L) ++ [eol28]
  | p, [] => by show p.map ptW ++ [eol28] = (p.map ptW ++ []) ++ [eol28]; rw [List.append_nil]
  | p, q :: L => by
    show p.map ptW ++ (eol28 :: wsL (q :: L)) = (p.map ptW ++ (eol28 :: wsR (q :: L))) ++ [eol28]
    rw [wsL_last28 q L]; simp
theorem drop_lines28 (L : List (List Pt)) : dropEnd (wsL L) = wsR L := by
  cases L with
  | nil => rfl
  | cons p L =>
    rw [wsL_last28]
    unfold dropEnd
    rw [List.getLast?_append]
    show (if endW eol28 = true then _ else _) = _
    rw [if_pos (show endW eol28 = true from rfl)]
    simp
abbrev C28 (l : List Word) : Cur := ⟨l, 0, 0, 0⟩
theorem over_show28 {c : Cert} (h : fitsB c = true) : CurSim (overT (showB c)) (C28 (wsR (linesC c))) := by
  have hk := ok_cert28 h
  obtain ⟨h1, h2, _⟩ := back_shown (show_cert28 hk)
  have hs : SimR (readR (showB c)) ⟨wsL (linesC c), 0, 0, 0⟩ := ⟨h1, fun _ => compK_core28 _ _ true h2⟩
  have hv := over_sim _ _ hs
  simp only at hv
  rw [compK_lines28 _ hk, drop_lines28, if_neg (show ¬ ((0 : Int) ≠ 0) by simp)] at hv
  exact hv
end Go.Proofs.YtppkanniefignaaGreatDoor
set_option linter.unusedSimpArgs false
set_option linter.unusedVariables false
namespace Go.Proofs.YtppkanniefignaaGreatDoor
open Go.RowKit
theorem endC_E28 (L : List (List Pt)) : endC (C28 (wsE wsR L)) = C28 (wsR L) := by cases L <;> rfl
theorem ends_E28 (L : List (List Pt)) : endsC (C28 (wsE wsR L)) = true := by cases L <;> rfl
theorem comma_E28 (L : List (List Pt)) : isC (.mk tComma) (C28 (wsE wsR L)) = false := by cases L <;> rfl
theorem is_nm28 (t u : ByteArray) (r : List Word) : isC (.nm t) (C28 (nm28 u :: r)) = (u.toList == t.toList) := rfl
theorem is_mk28 (t u : ByteArray) (r : List Word) : isC (.mk t) (C28 (mk28 u :: r)) = (u.toList == t.toList) := rfl
theorem kind_hit28 {k : Nat} (h1 : 1 ≤ k) (h4 : k ≤ 4) (r : List Word) : kindC kindsB 1 (C28 (nm28 (kindT k) :: r)) = (k, C28 r) := by
  rcases (by omega : k = 1 ∨ k = 2 ∨ k = 3 ∨ k = 4) with rfl | rfl | rfl | rfl
  all_goals
    simp only [kindsB, kindC, is_nm28, ByteArray.toList_eq]
    rfl
theorem num_hit28 {lo hi n : Int} (h0 : lo ≤ n) (h1 : n ≤ hi) (r : List Word) : numC lo hi (C28 (nu28 n :: r)) = (n, C28 r) := by
  show (if (2 : Int) = 2 then (if n < lo ∨ hi < n then (0, failC 3 (C28 (nu28 n :: r))) else (n, popC (C28 (nu28 n :: r)))) else (0, failC 7 (C28 (nu28 n :: r)))) = _
  rw [if_pos rfl, if_neg (by omega)]
  rfl
theorem mark_hit28 (t : ByteArray) (r : List Word) : markC [t] (C28 (mk28 t :: r)) = C28 r := by
  unfold markC markC
  rw [is_mk28, if_pos (by simp)]
  rfl
theorem name_hit28 (t : ByteArray) (r : List Word) : nameC (C28 (nm28 t :: r)) = (t, C28 r) := rfl
theorem peek_hit28 (t : ByteArray) (r : List Word) : peekC (C28 (nm28 t :: r)) = t := rfl
theorem unless_ok28 {b : Bool} (h : b = true) (x : Int) (s : Cur) : unlessC b x s = s := by unfold unlessC; rw [if_pos h]
theorem blocks_hit28 : ∀ (bl acc : List Int) (L : List (List Pt)), (∀ b ∈ bl, 0 ≤ b ∧ b < 200) → acc.length + bl.length ≤ 200 → blocksC (acc, C28 (bl.map nu28 ++ wsE wsR L)) = (acc ++ bl, C28 (wsE wsR L))
  | [], acc, L, _, _ => by
    have hg : blockG (acc, C28 (([] : List Int).map nu28 ++ wsE wsR L)) = none := if_pos (ends_E28 L)
    rw [blocksC_stop hg]
    simp
  | b :: bl, acc, L, h, hl => by
    have hb := h b (by simp)
    simp only [List.length_cons] at hl
    have hg : blockG (acc, C28 ((b :: bl).map nu28 ++ wsE wsR L)) = some (acc ++ [b], C28 (bl.map nu28 ++ wsE wsR L)) := by
      unfold blockG
      simp only
      rw [if_neg (by show ¬ ((2 : Int) == 4) = true; decide), unless_ok28 (by simp; omega)]
      rw [show C28 ((b :: bl).map nu28 ++ wsE wsR L) = C28 (nu28 b :: (bl.map nu28 ++ wsE wsR L)) from rfl, num_hit28 (by omega) (by omega)]
    rw [blocksC_go hg, blocks_hit28 bl _ L (fun y hy => h y (List.mem_cons_of_mem _ hy)) (by simp; omega)]
    simp
theorem tile_hit28 {t : Tile} (h : TileIn t) (L : List (List Pt)) : tileC (C28 (((tileP t).tail.map ptW) ++ wsE wsR L)) = (t, C28 (wsR L)) := by
  have a1 := h.k1; have a2 := h.k4; have a3 := h.p1; have a4 := h.p2; have a5 := h.n
  obtain ⟨kd, pr, bl⟩ := t
  simp only at a1 a2 a3 a4 a5
  obtain ⟨k, rfl⟩ : ∃ k : Nat, kd = (k : Int) := ⟨kd.toNat, by omega⟩
  have e : (tileP ⟨(k : Int), pr, bl⟩).tail.map ptW ++ wsE wsR L = nm28 (kindT k) :: nu28 pr :: mk28 tColon :: (bl.map nu28 ++ wsE wsR L) := by
    have hk : ptW (.str (kindT k)) = nm28 (kindT k) := by
      rcases (by omega : k = 1 ∨ k = 2 ∨ k = 3 ∨ k = 4) with rfl | rfl | rfl | rfl <;> rfl
    have hc : ptW (.str tColon) = mk28 tColon := rfl
    have hb : (bl.map Pt.int).map ptW = bl.map nu28 := by rw [List.map_map]; rfl
    unfold tileP
    simp only [List.cons_append, List.nil_append, List.tail_cons, List.map_cons, List.map_append, hb, Int.toNat_natCast]
    rw [hk, hc]
    rfl
  rw [e]
  unfold tileC
  simp only
  rw [kind_hit28 (by omega) (by omega)]
  simp only
  rw [unless_ok28 (by simp; omega), num_hit28 (by omega) (by omega)]
  simp only
  rw [mark_hit28, blocks_hit28 bl [] L h.b (by simpa using a5)]
  simp only [List.nil_append]
  rw [endC_E28]
/-- The words of facts, behind the first. -/
theorem fact_words28 (f : Fact) : (factP f).map ptW = [nm28 (ptB (.nm (.var f.var))), mk28 tEq, nm28 (ptB (.nm (.loc f.loc)))] := rfl
theorem fact_hit28 {f : Fact} (h : FactIn f) {acc : List Fact} (hl : acc.length < 600) (ha : lastOk acc f = true) (r : List Word) : factC acc (C28 ((factP f).map ptW ++ r)) = (f, C28 r) := by
  have e1 : varW (ptB (.nm (.var f.var))) = f.var := by
    rw [ptB_key h.ok.1, ← nameW_var, nameW_key h.ok.1]
  have e2 : placeW (ptB (.nm (.loc f.loc))) = some f.loc := by
    rw [ptB_key h.ok.2, ← nameW_loc, nameW_key h.ok.2]
  have e3 : f.var ≠ 0 := by
    rcases h.ok.1 with h | h <;> omega
  rw [fact_words28]
  unfold factC
  simp only [List.cons_append, List.nil_append]
  rw [unless_ok28 (b := decide (acc.length < 600)) (by simpa using hl), peek_hit28, e1, unless_ok28 (b := f.var != 0) (by simpa using e3), name_hit28]
  simp only
  rw [mark_hit28, peek_hit28, e2]
  simp only [Option.getD_some, Option.isSome_some, Bool.true_and]
  rw [unless_ok28 (b := lastOk acc ⟨f.var, f.loc⟩) ha, name_hit28]
end Go.Proofs.YtppkanniefignaaGreatDoor
set_option linter.unusedSimpArgs false
set_option linter.unusedVariables false
namespace Go.Proofs.YtppkanniefignaaGreatDoor
open Go.RowKit
theorem factsP_false28 (f : Fact) (l : List Fact) : factsP false (f :: l) = .str tComma :: factsP true (f :: l) := rfl
theorem facts_hit28 : ∀ (l acc : List Fact) (f : Fact) (L : List (List Pt)), (∀ g ∈ f :: l, FactIn g) → acc.length + (f :: l).length ≤ 600 → rowL acc.getLast? (f :: l) = true →
    factsL ((acc, true), C28 ((factsP true (f :: l)).map ptW ++ wsE wsR L)) = ((acc ++ f :: l, false), C28 (wsE wsR L))
  | [], acc, f, L, h, hl, hr => by
    simp only [List.length_cons, List.length_nil] at hl
    have ha : lastOk acc f = true := by
      unfold lastOk
      cases hg : acc.getLast? with
      | none => rfl
      | some g => rw [hg] at hr; simp only [rowL, Bool.and_eq_true] at hr; exact hr.1.2
    have hf := fact_hit28 (h f (by simp)) (acc := acc) (by omega) ha (wsE wsR L)
    have e : (factsP true [f]).map ptW ++ wsE wsR L = (factP f).map ptW ++ wsE wsR L := by
      rw [show factsP true [f] = factP f ++ factsP false [] from rfl, show factsP false [] = [] from rfl, List.append_nil]
    have hg : factG ((acc, true), C28 ((factsP true [f]).map ptW ++ wsE wsR L)) = some ((acc ++ [f], false), C28 (wsE wsR L)) := by
      rw [e]
      unfold factG
      simp only
      rw [if_pos trivial, hf]
      simp only
      rw [comma_E28]
      rfl
    rw [factsL_go hg, factsL_stop (show factG ((acc ++ [f], false), C28 (wsE wsR L)) = none from rfl)]
  | f2 :: l, acc, f, L, h, hl, hr => by
    simp only [List.length_cons] at hl
    have ha : lastOk acc f = true := by
      unfold lastOk
      cases hg : acc.getLast? with
      | none => rfl
      | some g => rw [hg] at hr; rw [show rowL (some g) (f :: f2 :: l) = (factOk f && aheadF g f && rowL (some f) (f2 :: l)) from rfl] at hr; simp only [Bool.and_eq_true] at hr; exact hr.1.2
    have hr2 : rowL (some f) (f2 :: l) = true := by
      cases hg : acc.getLast? with
      | none => rw [hg, show rowL none (f :: f2 :: l) = (factOk f && rowL (some f) (f2 :: l)) from rfl, Bool.and_eq_true] at hr; exact hr.2
      | some g => rw [hg, show rowL (some g) (f :: f2 :: l) = (factOk f && aheadF g f && rowL (some f) (f2 :: l)) from rfl, Bool.and_eq_true] at hr; exact hr.2
    have e : (factsP true (f :: f2 :: l)).map ptW ++ wsE wsR L = (factP f).map ptW ++ (mk28 tComma :: ((factsP true (f2 :: l)).map ptW ++ wsE wsR L)) := by
      rw [show factsP true (f :: f2 :: l) = factP f ++ factsP false (f2 :: l) from rfl, factsP_false28, List.map_append, List.map_cons, List.append_assoc]
      rfl
    have hf := fact_hit28 (h f (by simp)) (acc := acc) (by omega) ha (mk28 tComma :: ((factsP true (f2 :: l)).map ptW ++ wsE wsR L))
    have hg : factG ((acc, true), C28 ((factsP true (f :: f2 :: l)).map ptW ++ wsE wsR L)) = some ((acc ++ [f], true), C28 ((factsP true (f2 :: l)).map ptW ++ wsE wsR L)) := by
      rw [e]
      unfold factG
      simp only
      rw [if_pos trivial, hf]
      simp only
      rw [is_mk28, show (tComma.toList == tComma.toList) = true by simp]
      rfl
    rw [factsL_go hg, facts_hit28 l (acc ++ [f]) f2 L (fun g hg => h g (List.mem_cons_of_mem _ hg)) (by simp only [List.length_append, List.length_cons, List.length_nil]; omega) (by rw [List.getLast?_append]; exact hr2)]
    simp
theorem row_hit28 {l : List Fact} (h : rowOk l = true) (L : List (List Pt)) : factsC (C28 ((factsP true l).map ptW ++ wsE wsR L)) = (l, C28 (wsR L)) := by
  obtain ⟨h1, h2⟩ := rowOk_in h
  have hr : rowL none l = true := by unfold rowOk at h; rw [Bool.and_eq_true] at h; exact h.1
  unfold factsC
  simp only
  cases l with
  | nil =>
    rw [show (factsP true ([] : List Fact)).map ptW ++ wsE wsR L = wsE wsR L from rfl, ends_E28]
    rw [factsL_stop (show factG (([], !true), C28 (wsE wsR L)) = none from rfl)]
    simp only
    rw [endC_E28]
  | cons f l =>
    have he : endsC (C28 ((factsP true (f :: l)).map ptW ++ wsE wsR L)) = false := rfl
    rw [he, Bool.not_false, facts_hit28 l [] f L (fun g hg => factOk_in (h1 g hg)) (by simpa using h2) hr]
    simp only [List.nil_append]
    rw [endC_E28]
theorem tiles_hit28 : ∀ (tl acc : List Tile) (L : List (List Pt)), (∀ t ∈ tl, TileIn t) → acc.length + tl.length ≤ 200 → tilesG ((acc ++ tl), C28 (wsR L)) = none → tilesC (acc, C28 (wsR (tl.map tileP ++ L))) = (acc ++ tl, C28 (wsR L))
  | [], acc, L, _, _, hn => by
    rw [List.append_nil] at hn
    rw [show ([] : List Tile).map tileP ++ L = L from rfl, tilesC_stop hn, List.append_nil]
  | t :: tl, acc, L, h, hl, hn => by
    simp only [List.length_cons] at hl
    have e : wsR ((t :: tl).map tileP ++ L) = nm28 tTile :: ((tileP t).tail.map ptW ++ wsE wsR (tl.map tileP ++ L)) := by
      rw [List.map_cons, List.cons_append, wsR_cons]
      rfl
    have hg : tilesG (acc, C28 (wsR ((t :: tl).map tileP ++ L))) = some (acc ++ [t], C28 (wsR (tl.map tileP ++ L))) := by
      rw [e]
      unfold tilesG
      simp only
      rw [if_pos (by rw [is_nm28]; simp), unless_ok28 (by simp; omega)]
      rw [show popC (C28 (nm28 tTile :: ((tileP t).tail.map ptW ++ wsE wsR (tl.map tileP ++ L)))) = C28 ((tileP t).tail.map ptW ++ wsE wsR (tl.map tileP ++ L)) from rfl, tile_hit28 (h t (by simp))]
    rw [tilesC_go hg, tiles_hit28 tl (acc ++ [t]) L (fun y hy => h y (List.mem_cons_of_mem _ hy)) (by simp only [List.length_append, List.length_cons, List.length_nil]; omega) (by simpa using hn)]
    simp
theorem edges_hit28 : ∀ (fl acc : List (List Fact)), (∀ l ∈ fl, rowOk l = true) → acc.length + fl.length ≤ 400 → edgesC (acc, C28 (wsR (fl.map edgeP))) = (acc ++ fl, C28 [])
  | [], acc, _, _ => by
    rw [show wsR (([] : List (List Fact)).map edgeP) = [] from rfl, edgesC_stop (show edgesG (acc, C28 []) = none from rfl), List.append_nil]
  | l :: fl, acc, h, hl => by
    simp only [List.length_cons] at hl
    have e : wsR ((l :: fl).map edgeP) = nm28 tEdge :: ((factsP true l).map ptW ++ wsE wsR (fl.map edgeP)) := by
      rw [List.map_cons, wsR_cons]
      rfl
    have hg : edgesG (acc, C28 (wsR ((l :: fl).map edgeP))) = some (acc ++ [l], C28 (wsR (fl.map edgeP))) := by
      rw [e]
      unfold edgesG
      simp only
      rw [if_pos (by rw [is_nm28]; simp), unless_ok28 (by simp; omega)]
      rw [show popC (C28 (nm28 tEdge :: ((factsP true l).map ptW ++ wsE wsR (fl.map edgeP)))) = C28 ((factsP true l).map ptW ++ wsE wsR (fl.map edgeP)) from rfl, row_hit28 (h l (by simp))]
    rw [edgesC_go hg, edges_hit28 fl (acc ++ [l]) (fun y hy => h y (List.mem_cons_of_mem _ hy)) (by simp only [List.length_append, List.length_cons, List.length_nil]; omega)]
    simp
theorem cert_hit28 {c : Cert} (h : fitsB c = true) : certC (C28 (wsR (linesC c))) = (c, C28 []) := by
  have hf := fits_in h
  have hn : tilesG ([] ++ c.tiles, C28 (wsR (c.facts.map edgeP))) = none := by
    cases hc : c.facts with
    | nil => rfl
    | cons l fl =>
      have e : wsR ((l :: fl).map edgeP) = nm28 tEdge :: ((factsP true l).map ptW ++ wsE wsR (fl.map edgeP)) := by
        rw [List.map_cons, wsR_cons]
        rfl
      rw [e]
      unfold tilesG
      simp only
      rw [if_neg (by rw [is_nm28, ByteArray.toList_eq, ByteArray.toList_eq]; decide)]
  have h1 := tiles_hit28 c.tiles [] (c.facts.map edgeP) (fun t ht => tileOk_in (hf.ts t ht)) (by simpa using hf.t) hn
  have h2 := edges_hit28 c.facts [] hf.fs (by simpa using hf.f)
  unfold certC linesC
  rw [h1]
  simp only
  rw [h2]
  simp
end Go.Proofs.YtppkanniefignaaGreatDoor
set_option linter.unusedSimpArgs false
set_option linter.unusedVariables false
namespace Go.Proofs.YtppkanniefignaaGreatDoor
open Go.RowKit
theorem loop_sim28 {σ : Type} {go : σ → Option σ} (R : σ → σ → Prop) (hgo : ∀ x y, R x y → (go x = none ∧ go y = none) ∨ ∃ x' y', go x = some x' ∧ go y = some y' ∧ R x' y') : ∀ (f : Nat) {x y : σ}, R x y → R (loopC go f x) (loopC go f y)
  | 0, _, _, h => h
  | f + 1, x, y, h => by
    rcases hgo x y h with ⟨h1, h2⟩ | ⟨x', y', h1, h2, h3⟩
    · rw [loop_none h1, loop_none h2]; exact h
    · rw [loop_some h1, loop_some h2]; exact loop_sim28 R hgo f h3
theorem run_sim28 {σ : Type} {go : σ → Option σ} {μ : σ → Nat} (R : σ → σ → Prop) (hgo : ∀ x y, R x y → (go x = none ∧ go y = none) ∨ ∃ x' y', go x = some x' ∧ go y = some y' ∧ R x' y') (hμ : ∀ x y, R x y → μ x = μ y) {x y : σ} (h : R x y) : R (runC go μ x) (runC go μ y) := by
  unfold runC
  rw [hμ x y h]
  exact loop_sim28 R hgo _ h
section
variable {a b : Cur}
theorem CurSim.ends28 (h : CurSim a b) : endsC a = endsC b := by
  unfold endsC
  rcases h.head with ⟨h1, h2⟩ | ⟨x, y, h1, h2, h3⟩
  · rw [h1, h2]
  · rw [h1, h2]; simp only [(core_parts h3).1]
theorem CurSim.peek28 (h : CurSim a b) : peekC a = peekC b := by
  unfold peekC
  rcases h.head with ⟨h1, h2⟩ | ⟨x, y, h1, h2, h3⟩
  · rw [h1, h2]
  · rw [h1, h2]; simp only [(core_parts h3).1, (core_parts h3).2.1]
theorem CurSim.left28 (h : CurSim a b) : leftC a = leftC b := by
  have h1 := congrArg List.length h.1
  rw [List.length_map, List.length_map] at h1
  unfold leftC
  rw [h.2, h1]
theorem CurSim.unless28 (h : CurSim a b) (q : Bool) (x : Int) : CurSim (unlessC q x a) (unlessC q x b) := by
  unfold unlessC
  split
  · exact h
  · exact h.fail x
theorem kind_sim28 : ∀ (l : List ByteArray) (k : Nat) {a b : Cur}, CurSim a b → (kindC l k a).1 = (kindC l k b).1 ∧ CurSim (kindC l k a).2 (kindC l k b).2
  | [], _, _, _, h => ⟨rfl, h⟩
  | t :: l, k, a, b, h => by
    unfold kindC
    rw [h.is]
    split
    · exact ⟨rfl, h.pop⟩
    · exact kind_sim28 l (k + 1) h
def SimL28 {α : Type} (x y : α × Cur) : Prop := x.1 = y.1 ∧ CurSim x.2 y.2
theorem blocks_sim28 {x y : List Int × Cur} (h : SimL28 x y) : SimL28 (blocksC x) (blocksC y) := by
  refine run_sim28 SimL28 (fun x y h => ?_) (fun x y h => h.2.left28) h
  unfold blockG
  rw [h.2.ends28]
  split
  · exact .inl ⟨rfl, rfl⟩
  · refine .inr ⟨_, _, rfl, rfl, ?_⟩
    rw [h.1]
    obtain ⟨h1, h2⟩ := (h.2.unless28 (decide (y.1.length < 200)) 3).num 0 199
    exact ⟨by simp only; rw [h1], h2⟩
theorem blocks_from28 (acc : List Int) (h : CurSim a b) : SimL28 (blocksC (acc, a)) (blocksC (acc, b)) := blocks_sim28 ⟨rfl, h⟩
theorem tile_sim28 (h : CurSim a b) : SimL28 (tileC a) (tileC b) := by
  obtain ⟨h1, k1⟩ := kind_sim28 kindsB 1 h
  unfold tileC
  simp only
  rw [h1]
  obtain ⟨h2, k2⟩ := (k1.unless28 ((kindC kindsB 1 b).1 != 0) 7).num (-1) 199
  obtain ⟨h3, k3⟩ := blocks_from28 [] (k2.mark [tColon])
  exact ⟨by simp only; rw [h2, h3], k3.end_⟩
theorem fact_sim28 (l : List Fact) (h : CurSim a b) : SimL28 (factC l a) (factC l b) := by
  have k1 := h.unless28 (decide (l.length < 600)) 3
  unfold factC
  simp only
  rw [k1.peek28]
  have k2 := k1.unless28 (varW (peekC (unlessC (decide (l.length < 600)) 3 b)) != 0) 7
  have k3 := k2.name.2.mark [tEq]
  rw [k3.peek28]
  exact ⟨rfl, (k3.unless28 _ 7).name.2⟩
theorem factsL_sim28 {x y : (List Fact × Bool) × Cur} (h : SimL28 x y) : SimL28 (factsL x) (factsL y) := by
  refine run_sim28 SimL28 (fun x y h => ?_) (fun x y h => by unfold factM; rw [h.1, h.2.left28]) h
  unfold factG
  rw [h.1]
  split
  · refine .inr ⟨_, _, rfl, rfl, ?_⟩
    obtain ⟨h1, h2⟩ := fact_sim28 y.1.1 h.2
    exact ⟨by simp only; rw [h1, h2.is], by simp only; rw [h2.is]; exact h2.over _⟩
  · exact .inl ⟨rfl, rfl⟩
theorem facts_sim28 (h : CurSim a b) : SimL28 (factsC a) (factsC b) := by
  unfold factsC
  simp only
  rw [h.ends28]
  obtain ⟨h1, h2⟩ := factsL_sim28 (x := (([], !endsC b), a)) (y := (([], !endsC b), b)) ⟨rfl, h⟩
  exact ⟨by simp only; rw [h1], h2.end_⟩
theorem tiles_sim28 {x y : List Tile × Cur} (h : SimL28 x y) : SimL28 (tilesC x) (tilesC y) := by
  refine run_sim28 SimL28 (fun x y h => ?_) (fun x y h => h.2.left28) h
  unfold tilesG
  rw [h.2.is]
  split
  · refine .inr ⟨_, _, rfl, rfl, ?_⟩
    rw [h.1]
    obtain ⟨h1, h2⟩ := tile_sim28 (h.2.pop.unless28 (decide (y.1.length < 200)) 3)
    exact ⟨by simp only; rw [h1], h2⟩
  · exact .inl ⟨rfl, rfl⟩
theorem edges_sim28 {x y : List (List Fact) × Cur} (h : SimL28 x y) : SimL28 (edgesC x) (edgesC y) := by
  refine run_sim28 SimL28 (fun x y h => ?_) (fun x y h => h.2.left28) h
  unfold edgesG
  rw [h.2.is]
  split
  · refine .inr ⟨_, _, rfl, rfl, ?_⟩
    rw [h.1]
    obtain ⟨h1, h2⟩ := facts_sim28 (h.2.pop.unless28 (decide (y.1.length < 400)) 3)
    exact ⟨by simp only; rw [h1], h2⟩
  · exact .inl ⟨rfl, rfl⟩
theorem edges_from28 (acc : List (List Fact)) (h : CurSim a b) : SimL28 (edgesC (acc, a)) (edgesC (acc, b)) := edges_sim28 ⟨rfl, h⟩
theorem cert_sim28 (h : CurSim a b) : SimL28 (certC a) (certC b) := by
  obtain ⟨h1, k1⟩ := tiles_sim28 (x := ([], a)) (y := ([], b)) ⟨rfl, h⟩
  obtain ⟨h2, k2⟩ := edges_from28 [] k1
  exact ⟨by unfold certC; simp only; rw [h1, h2], k2⟩
end
/-- A text whose words are those of what is printed, but for places, tells the certificate. -/
theorem parse_words28 {c : Cert} (h : fitsB c = true) {s : ByteArray} (hs : s.size ≤ 262144) (ho : CurSim (overT s) (C28 (wsR (linesC c)))) : parse28 s = (c, 0, 0, 0) := by
  obtain ⟨h1, h2⟩ := cert_sim28 ho
  rw [cert_hit28 h] at h1 h2
  unfold parse28
  rw [if_neg (by omega), h2.err, h1]
  rfl
/-- WHAT IS PRINTED IS READ. -/
theorem parse_show28 {c : Cert} (h : rightB c = true) : parse28 (showB c) = (c, 0, 0, 0) := by
  have hf : fitsB c = true := by unfold rightB at h; rw [Bool.and_eq_true] at h; exact h.1
  refine parse_words28 hf ?_ (over_show28 hf)
  unfold rightB at h
  rw [Bool.and_eq_true, decide_eq_true_eq] at h
  exact h.2
end Go.Proofs.YtppkanniefignaaGreatDoor
