/- strings.Builder at this program: copyCheck, WriteByte, WriteString: the walks, turned from the library's worked ones (there copyCheck's panic stands; here the loader refuses that place). Words as a text: the program's Show and the document's. Words that are shown are read; words that are read are shown, but for odd numbers. -/
import Derived.Test.YtljglhaeonbfoaaGreatDoorG0
import Derived.Shelf.Strings.BuilderF
import Derived.Lib.FrozenHead2
import Derived.Lib.OthersKept
import Derived.Test.YtljglhaeonbfoaaGreatDoorG10
import Derived.Test.YtljglhaeonbfoaaGreatDoorG14
set_option linter.unusedSimpArgs false
set_option linter.unusedVariables false
namespace Go.Proofs.YtljglhaeonbfoaaGreatDoor
open Go.RowKit Go.Shelf
theorem info_byte : (Tryz.prog.info? 5).map (fun i => (i.zero, i.size, i.bytes)) = some (some (.int .u8 0), 1, 1) := by kernel_rfl
theorem size_builder : (Tryz.prog.info? 61).map (·.size) = some 2 := by kernel_rfl
theorem lies_builder : liesAt Tryz.prog Tryz.prog.depth 61 (2 / Tryz.prog.cellsOf 61) 0 61 1 = true := by kernel_rfl
set_option maxRecDepth 100000 in
theorem copy_fresh (b : Nat) (w : World) (h0 : w.cell? ⟨b, 0, none⟩ = some (.pointer none)) (hsh : w.shape? b = some (61, 2)) (hfz : w.frozen? ⟨b, 0, none⟩ = false) :
  Calls Tryz.prog 69 #[.pointer (some ⟨b, 0, none⟩)] w fun e w' => e = .returned (.tuple #[]) ∧ w' = w.setCell ⟨b, 0, none⟩ (.pointer (some ⟨b, 0, none⟩)) := by
 obtain ⟨j, hj, hjs⟩ := Option.map_eq_some_iff.1 size_builder
 go_enter Tryz.func69, Tryz.ntmps69
 go_wp2_with fail
 rw [Lib.run_to_unsafe w ⟨b, 0, none⟩ Tryz.underlying58 Tryz.underlying162 hj (by rw [hjs]; decide) hsh (Nat.zero_lt_succ 1)]
 simp only [Result.andThen]
 rw [Oper.upon_value]
 go_wp2_with fail
 rw [run_callFunc_extern Tryz.func122 (by kernel_rfl) (by kernel_rfl) (by kernel_rfl) (e := Extern.AbiNoEscape.same) (by kernel_rfl)]
 rw [Lib.run_noEscape]
 simp only [Result.andThen]
 rw [Oper.upon_value]
 go_wp2_with fail
 rw [Lib.run_from_unsafe w ⟨b, 0, none⟩ Tryz.underlying162 Tryz.underlying58 hj hsh lies_builder]
 simp only [Result.andThen]
 rw [Oper.upon_value]
 go_wp2_with fail
 go_end0
 exact ⟨rfl, rfl⟩
set_option maxRecDepth 100000 in
theorem copy_used (b : Nat) (w : World) (h0 : w.cell? ⟨b, 0, none⟩ = some (.pointer (some ⟨b, 0, none⟩))) :
  Calls Tryz.prog 69 #[.pointer (some ⟨b, 0, none⟩)] w fun e w' => e = .returned (.tuple #[]) ∧ w' = w := by
 obtain ⟨j, hj, _⟩ := Option.map_eq_some_iff.1 size_builder
 go_enter Tryz.func69, Tryz.ntmps69
 go_wp2_with fail
 rw [Lib.run_neq_ptr_same w _ Tryz.underlying58 hj]
 go_wp2_with fail
 go_end0
 exact ⟨rfl, rfl⟩
abbrev BdF (B b : Nat) (bs : List Value) (w : World) : Prop := Lib.IsBuilderF 61 5 B b bs w
theorem copy_any (B b : Nat) (bs : List Value) (w : World) (h : BdF B b bs w) :
  Calls Tryz.prog 69 #[.pointer (some ⟨b, 0, none⟩)] w fun e w' => e = .returned (.tuple #[]) ∧ (Lib.BuilderAtF 61 5 B b (.pointer (some ⟨b, 0, none⟩)) bs w' ∧ Below B w w' ∧ Lib.OthersKept 5 (some b) w w') := by
 rcases h with h | h
 ·refine (copy_fresh b w h.cell0 h.shape h.frozen0).mono ?_
  rintro e w' ⟨rfl, rfl⟩
  exact ⟨rfl, h.used _, (Below.refl B w).setCell (p := ⟨b, 0, none⟩) h.1 _, (Lib.OthersKept.refl _ _ w).setCell ⟨b, 0, none⟩ rfl _⟩
 ·refine (copy_used b w h.cell0).mono ?_
  rintro e w' ⟨rfl, rfl⟩
  exact ⟨rfl, h, Below.refl B _, Lib.OthersKept.refl _ _ _⟩
set_option maxRecDepth 100000 in
set_option maxHeartbeats 2000000 in
theorem writeString_any (B b : Nat) (bs : List Value) (s : ByteArray) (w : World) (h : BdF B b bs w) (hlen : bs.length + s.size ≤ 140737488355328) (hBw : B ≤ w.heap.size) :
  Calls Tryz.prog 26 #[.pointer (some ⟨b, 0, none⟩), .string s] w fun e w' => e = .returned (.tuple #[.int .i64 s.size, .nilIface]) ∧ (BdF B b (bs ++ Lib.strCells s) w' ∧ Below B w w' ∧ Lib.OthersKept 5 (some b) w w') := by
 obtain ⟨i0, hi, hz0, hz1, hz2⟩ := info_parts info_byte
 go_enter Tryz.func26, Tryz.ntmps26
 go_wp2_with (go_at_call 69; refine (copy_any B b bs _ h).mono ?_)
 rintro e w1 ⟨rfl, h1, hb1, hk1⟩
 obtain ⟨hB, v, hbk, hown, hne⟩ := h1
 have c0 : w1.cell? ⟨b, 0, none⟩ = some (.pointer (some ⟨b, 0, none⟩)) := by rw [Lib.cell_of_heap hbk]; rfl
 have c1 : w1.cell? ⟨b, 1, none⟩ = some v := by rw [Lib.cell_of_heap hbk]; rfl
 go_wp2_with (at_builtin; refine Lib.wpList_append_own_stringF _ rfl _ _ 59 9 rfl B 5 i0 Tryz.underlying59 Tryz.underlying9 hi hz0 hz1 hz2 _ _ _ rfl hown s rfl ?c3 ?c4 ?c5 ?_)
 case c3 => unfold maxLen; omega
 case c4 => omega
 case c5 => have := hb1.size; omega
 intro v' w2 hown' hgrow _
 have hlt : b < w1.heap.size := by
  rcases Nat.lt_or_ge b w1.heap.size with h' | h'
  ·exact h'
  ·simp [Array.getElem?_eq_none h'] at hbk
 have hb2 : w2.heap[b]? = some (.cells #[.pointer (some ⟨b, 0, none⟩), v] 61 (0, 0)) := by
  rw [hgrow.block b hlt (fun e => hne e.symm)]
  exact hbk
 have d0 : w2.cell? ⟨b, 0, none⟩ = some (.pointer (some ⟨b, 0, none⟩)) := by rw [Lib.cell_of_heap hb2]; rfl
 have d1 : w2.cell? ⟨b, 1, none⟩ = some v := by rw [Lib.cell_of_heap hb2]; rfl
 have f1 : w2.frozen? ⟨b, 1, none⟩ = false := Lib.frozen_of_heap hb2 1
 obtain ⟨ao, n', cap, rfl⟩ : ∃ ao n' cap, v' = .slice ao n' cap := by
  rcases hown'.2 with ⟨hv, _⟩ | ⟨g, cap, cur, fz, hv, _⟩
  ·exact ⟨_, _, _, hv⟩
  ·exact ⟨_, _, _, hv⟩
 go_wp2_with fail
 go_ret2
 refine ⟨rfl, .inr ?_, ?_, (hk1.grown hgrow (Lib.ownsRowF_kind hown)).setCell ⟨b, 1, none⟩ rfl _⟩
 ·exact Lib.BuilderAtF.put (T := 61) (e := 5) hB hb2 (bs' := bs ++ Lib.strCells s) (by simpa [Lib.strCells_length] using hown') (by decide)
 ·exact (hb1.grown hgrow (by have := hb1.size; omega) (fun k hk => (hown.lt k hk).1)).setCell (p := ⟨b, 1, none⟩) hB _
end Go.Proofs.YtljglhaeonbfoaaGreatDoor
namespace Go.Proofs.YtljglhaeonbfoaaGreatDoor
open Go.RowKit
def totL : List Word → Nat
 | [] => 0
 | x :: l => x.text.size + 1 + totL l
theorem BdF.keep {B b : Nat} {bs : List Value} {w w' : World} (h : BdF B b bs w) (hk : ∀ k, k < w.heap.size → w'.heap[k]? = w.heap[k]?) : BdF B b bs w' := by
 have key : ∀ pv, Lib.BuilderAtF 61 5 B b pv bs w → Lib.BuilderAtF 61 5 B b pv bs w' := fun pv ⟨hB, v, hb, ⟨hl, hown⟩, hne⟩ => by
  refine ⟨hB, v, (hk b (Array.getElem?_eq_some_iff.1 hb).1).trans hb, ⟨hl, ?_⟩, hne⟩
  rcases hown with h | ⟨g, cap, cur, fz, hv, hg, hh, rest⟩
  ·exact .inl h
  ·exact .inr ⟨g, cap, cur, fz, hv, hg, (hk g (Array.getElem?_eq_some_iff.1 hh).1).trans hh, rest⟩
 rcases h with h | h
 ·exact .inl (key _ h)
 ·exact .inr (key _ h)
theorem BdF.lt {B b : Nat} {bs : List Value} {w : World} (h : BdF B b bs w) : b < w.heap.size := by
 rcases h with ⟨_, v, hb, _⟩ | ⟨_, v, hb, _⟩ <;> exact (Array.getElem?_eq_some_iff.1 hb).1
theorem bytes_app (a b : ByteArray) : Lib.byteCells a.data.toList ++ Lib.strCells b = Lib.byteCells (a ++ b).data.toList := by
 rw [Lib.strCells_eq, ← Lib.byteCells_append]; simp
end Go.Proofs.YtljglhaeonbfoaaGreatDoor
namespace Go.Proofs.YtljglhaeonbfoaaGreatDoor
theorem spell_snoc : ∀ (l : List UInt8) (c : UInt8) (acc : Nat), spell acc (l ++ [c]) = 10 * spell acc l + (c.toNat - 48)
 | [], _, _ => rfl
 | x :: l, c, acc => spell_snoc l c (10 * acc + (x.toNat - 48))
theorem u8_back (c : UInt8) : UInt8.ofNat c.toNat = c := by simp
theorem dec_can : ∀ (n : Nat) (l : List UInt8), l.length = n → DigB l → l ≠ [] → (l.length = 1 ∨ l.head? ≠ some 48) → Lib.decDigits (spell 0 l) = l ∧ (l.head? ≠ some 48 → 0 < spell 0 l)
 | 0, l, hn, _, hne, _ => by cases l <;> simp_all
 | n + 1, l, hn, hd, hne, hc => by
  obtain ⟨l', c, rfl⟩ : ∃ l' c, l = l' ++ [c] := ⟨l.dropLast, l.getLast hne, (List.dropLast_concat_getLast hne).symm⟩
  have hcd := hd c (by simp)
  rw [spell_snoc]
  by_cases h0 : l' = []
  ·subst h0
   have e : 10 * spell 0 [] + (c.toNat - 48) = c.toNat - 48 := by show 10 * 0 + _ = _; omega
   rw [e]
   refine ⟨?_, fun h => ?_⟩
   ·rw [Lib.decDigits_one (by omega), show 48 + (c.toNat - 48) = c.toNat by omega, u8_back]; rfl
   ·have : c ≠ 48 := by intro e; subst e; exact h rfl
    have : c.toNat ≠ 48 := fun e => this (UInt8.toNat_inj.1 e)
    omega
  ·have hh : l'.head? = (l' ++ [c]).head? := by cases l' <;> simp_all
   have h48 : (l' ++ [c]).head? ≠ some 48 := by
    rcases hc with h | h
    ·exfalso; apply h0; rw [List.length_append] at h; simp at h; exact h
    ·exact h
   obtain ⟨i1, i2⟩ := dec_can n l' (by simp at hn; exact hn) (fun x hx => hd x (by simp [hx])) h0 (.inr (by rw [hh]; exact h48))
   have hp := i2 (by rw [hh]; exact h48)
   refine ⟨?_, fun _ => by omega⟩
   rw [Lib.decDigits, dif_neg (by omega), show (10 * spell 0 l' + (c.toNat - 48)) / 10 = spell 0 l' by omega, i1, show (48 + (10 * spell 0 l' + (c.toNat - 48)) % 10) = c.toNat by omega, u8_back]
theorem can_dec (u : Nat) : DigB (Lib.decDigits u) ∧ spell 0 (Lib.decDigits u) = u ∧ Lib.decDigits u ≠ [] := by
 induction u using Nat.strongRecOn with
 | _ u ih =>
  by_cases h : u < 10
  ·rw [Lib.decDigits_one h]
   refine ⟨?_, ?_, by simp⟩
   ·intro c hc; obtain rfl := List.mem_singleton.1 hc; rw [ofNat_toNat (by omega)]; omega
   ·show 10 * 0 + ((UInt8.ofNat (48 + u)).toNat - 48) = u; rw [ofNat_toNat (by omega)]; omega
  ·obtain ⟨i1, i2, i3⟩ := ih (u / 10) (by omega)
   rw [Lib.decDigits, dif_neg h]
   refine ⟨?_, ?_, by simp⟩
   ·intro c hc
    rcases List.mem_append.1 hc with hc | hc
    ·exact i1 c hc
    ·obtain rfl := List.mem_singleton.1 hc; rw [ofNat_toNat (by omega)]; omega
   ·rw [spell_snoc, i2, ofNat_toNat (by omega)]; omega
def runesOf (l : List UInt8) : List Int := l.map fun b => (b.toNat : Int)
theorem runesOf_bytes (l : List UInt8) (h : ∀ b ∈ l, b.toNat < 128) : (runesBytes (runesOf l)).data.toList = l := by
 rw [asc_bytes _ (by intro x hx; obtain ⟨b, hb, rfl⟩ := List.mem_map.1 hx; have := h b hb; omega)]
 unfold runesOf
 rw [List.map_map]
 conv => rhs; rw [← List.map_id l]
 apply List.map_congr_left
 intro b hb
 simp
theorem DigB.low {l : List UInt8} (h : DigB l) : ∀ b ∈ l, b.toNat < 128 := fun b hb => by have := h b hb; omega
theorem DigB.isD {l : List UInt8} (h : DigB l) : ∀ x ∈ runesOf l, isD x = true := fun x hx => by
 obtain ⟨b, hb, rfl⟩ := List.mem_map.1 hx
 rw [isD_iff]; have := h b hb; omega
theorem runesOf_ne {l : List UInt8} (h : l ≠ []) : runesOf l ≠ [] := by cases l <;> simp_all [runesOf]
theorem itoa_num (n : Int) (h1 : -1099511627776 ≤ n) (h2 : n ≤ 1099511627776) : ∃ t, itoaB n = runesBytes t ∧ NumT t ∧ numBad (itoaB n) = false ∧ numN (itoaB n) = n := by
 by_cases hn : n < 0
 ·obtain ⟨c1, c2, c3⟩ := can_dec n.natAbs
  have e : Lib.itoa n = 45 :: Lib.decDigits n.natAbs := by unfold Lib.itoa; rw [if_pos hn]
  have ed : (itoaB n).data.toList = 45 :: Lib.decDigits n.natAbs := by unfold itoaB; rw [e]
  refine ⟨45 :: runesOf (Lib.decDigits n.natAbs), ?_, ⟨_, runesOf_ne c3, c1.isD, .inr rfl⟩, ?_⟩
  ·apply bytes_ext
   rw [ed, show (45 : Int) :: runesOf (Lib.decDigits n.natAbs) = runesOf (45 :: Lib.decDigits n.natAbs) from rfl, runesOf_bytes]
   intro b hb
   rcases List.mem_cons.1 hb with rfl | hb
   ·decide
   ·exact c1.low b hb
  ·obtain ⟨b1, b2⟩ := bad_of (s := itoaB n) (V := spell 0 (Lib.decDigits n.natAbs)) (B := 9223372036854775808) (x := -(spell 0 (Lib.decDigits n.natAbs) : Int)) (.inr rfl) (by decide) (by rw [ed, atoi_minus _ c1 c3])
   rw [c2] at b1 b2
   rw [b1, b2 (by omega)]
   refine ⟨by simp only [decide_eq_false_iff_not]; omega, by omega⟩
 ·obtain ⟨c1, c2, c3⟩ := can_dec n.toNat
  have e : Lib.itoa n = Lib.decDigits n.toNat := by unfold Lib.itoa; rw [if_neg hn]
  have ed : (itoaB n).data.toList = Lib.decDigits n.toNat := by unfold itoaB; rw [e]
  refine ⟨runesOf (Lib.decDigits n.toNat), ?_, ⟨_, runesOf_ne c3, c1.isD, .inl rfl⟩, ?_⟩
  ·apply bytes_ext; rw [ed, runesOf_bytes _ c1.low]
  ·obtain ⟨b1, b2⟩ := bad_of (s := itoaB n) (V := spell 0 (Lib.decDigits n.toNat)) (B := 9223372036854775807) (x := (spell 0 (Lib.decDigits n.toNat) : Int)) (.inl rfl) (by decide) (by
    rw [ed, atoi_plain _ c1 c3]
    by_cases h : spell 0 (Lib.decDigits n.toNat) < 9223372036854775808
    ·rw [if_pos h, if_pos (by omega)]
    ·rw [if_neg h, if_neg (by omega)])
   rw [c2] at b1 b2
   rw [b1, b2 (by omega)]
   refine ⟨by simp only [decide_eq_false_iff_not]; omega, by omega⟩
def TokW (x : Word) (t : List Int) : Prop := x.text = runesBytes t ∧
 ((x.kind = 1 ∧ x.n = 0 ∧ headL t = true ∧ (∀ c ∈ t, isLD c = true) ∧ t.length ≤ 16) ∨ (x.kind = 2 ∧ NumT t ∧ numBad x.text = false ∧ numN x.text = x.n) ∨ (x.kind = 3 ∧ x.n = 0 ∧ ∃ c, t = [c] ∧ isS c = true) ∨ (x.kind = 4 ∧ x.n = 0 ∧ t = []))
theorem runes_size_cons (c : Int) (l : List Int) : (runesBytes (c :: l)).size = (Utf8.encode c).size + (runesBytes l).size := by rw [runesBytes_cons, ByteArray.size_append]
theorem enc_pos {c : Int} (h : VR c) : 0 < (Utf8.encode c).size := (decode_enc h ByteArray.empty).2.2
theorem Lexes.tok {line col : Int} {rem : Bool} {L : List Int} {ws : List Word} (h : Lexes line col rem L ws) : (∀ w ∈ ws, ∃ t, TokW w t) ∧ ((∀ x ∈ L, VR x) → totL ws ≤ 2 * (runesBytes L).size) := by
 induction h with
 | nil line col rem => exact ⟨by simp, fun _ => by simp [totL]⟩
 | nl line col rem t ws h ih =>
  refine ⟨fun w hw => ?_, fun hv => ?_⟩
  ·rcases List.mem_cons.1 hw with rfl | hw
   ·exact ⟨[], rfl, .inr (.inr (.inr ⟨rfl, rfl, rfl⟩))⟩
   ·exact ih.1 w hw
  ·have := ih.2 fun x hx => hv x (by simp [hx])
   have h2 := enc_pos (hv 10 (by simp))
   have h3 : ByteArray.empty.size = 0 := rfl
   rw [runes_size_cons]; simp only [totL]; omega
 | skip line col rem c t ws h0 h10 hs h ih =>
  refine ⟨ih.1, fun hv => ?_⟩
  have := ih.2 fun x hx => hv x (by simp [hx])
  rw [runes_size_cons]; omega
 | num line col t l ws ht hb hl h ih =>
  refine ⟨fun w hw => ?_, fun hv => ?_⟩
  ·rcases List.mem_cons.1 hw with rfl | hw
   ·exact ⟨t, rfl, .inr (.inl ⟨rfl, ht, hb, rfl⟩)⟩
   ·exact ih.1 w hw
  ·have := ih.2 fun x hx => hv x (by simp [hx])
   have h2 : 0 < (runesBytes t).size := by rw [asc_size t ht.asc]; exact ht.ne
   rw [runesBytes_append, ByteArray.size_append]; simp only [totL]; omega
 | name line col t l ws h1 h2 h16 hl h ih =>
  refine ⟨fun w hw => ?_, fun hv => ?_⟩
  ·rcases List.mem_cons.1 hw with rfl | hw
   ·exact ⟨t, rfl, .inl ⟨rfl, rfl, h1, h2, h16⟩⟩
   ·exact ih.1 w hw
  ·have := ih.2 fun x hx => hv x (by simp [hx])
   have h2 : 0 < (runesBytes t).size := by
    cases t with
    | nil => cases h1
    | cons c t => rw [runes_size_cons]; have := enc_pos (hv c (by simp)); omega
   rw [runesBytes_append, ByteArray.size_append]; simp only [totL]; omega
 | sign line col c t ws hs h ih =>
  refine ⟨fun w hw => ?_, fun hv => ?_⟩
  ·rcases List.mem_cons.1 hw with rfl | hw
   ·exact ⟨[c], by rw [runesBytes_one], .inr (.inr (.inl ⟨rfl, rfl, c, rfl, hs⟩))⟩
   ·exact ih.1 w hw
  ·have := ih.2 fun x hx => hv x (by simp [hx])
   have h2 := enc_pos (hv c (by simp))
   rw [runes_size_cons]; simp only [totL]; omega
theorem Lexes.pos {line col : Int} {rem : Bool} {L : List Int} {ws : List Word} (h : Lexes line col rem L ws) : ∀ x ∈ L, 0 ≤ x := by
 induction h with
 | nil line col rem => simp
 | nl line col rem t ws h ih => intro x hx; rcases List.mem_cons.1 hx with rfl | hx; decide; exact ih x hx
 | skip line col rem c t ws h0 h10 hs h ih => intro x hx; rcases List.mem_cons.1 hx with rfl | hx; exact h0; exact ih x hx
 | num line col t l ws ht hb hl h ih => intro x hx; rcases List.mem_append.1 hx with hx | hx; exact (ht.asc x hx).1; exact ih x hx
 | name line col t l ws h1 h2 h16 hl h ih => intro x hx; rcases List.mem_append.1 hx with hx | hx; (have := isLD_pos (h2 x hx); omega); exact ih x hx
 | sign line col c t ws hs h ih => intro x hx; rcases List.mem_cons.1 hx with rfl | hx; exact (sign_facts hs []).1; exact ih x hx
def readR (s : ByteArray) : ReadR := resS (runS (items s 0) st0)
theorem readR_ref (s : ByteArray) : readR s = refL ((items s 0).length + 1) 1 1 false (items s 0) [] := lex_eq (items s 0)
theorem read_lexes {s : ByteArray} (h : (readR s).err = 0) : ∃ ws, Lexes 1 1 false (items s 0) ws ∧ readR s = ⟨ws, 0, 0, 0⟩ ∧ s = runesBytes (items s 0) ∧ (∀ x ∈ items s 0, VR x) ∧ totL ws ≤ 2 * s.size := by
 rw [readR_ref] at h
 obtain ⟨ws, hw⟩ := ref_lexes _ _ _ _ _ _ (Nat.lt_succ_self _) h
 obtain ⟨e, hv⟩ := runes_items hw.pos
 refine ⟨ws, hw, ?_, e, hv, ?_⟩
 ·rw [readR_ref, hw.ref _ _ (Nat.lt_succ_self _)]; rfl
 ·have := hw.tok.2 hv
  rw [← e] at this; exact this
theorem read_err (s : ByteArray) (h : (readR s).err ≠ 0) : (readR s).words = [] ∧ 1 ≤ (readR s).line ∧ 1 ≤ (readR s).col ∧ ((readR s).err = 6 ∨ (readR s).err = 3) := by
 rcases ref_errP ((items s 0).length + 1) 1 1 false (items s 0) [] (by decide) (by decide) with h' | h'
 ·rw [← readR_ref] at h'; exact absurd h' h
 ·rw [← readR_ref] at h'; exact h'
end Go.Proofs.YtljglhaeonbfoaaGreatDoor
