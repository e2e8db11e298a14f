/- law05: walks: a machine's text. law05: walks: the document's text of a machine. -/
import Derived.Test.YtcfimcghckjmeaaGreatDoorH2
import Derived.Test.YtcfimcghckjmeaaGreatDoorH4
import Derived.Test.YtcfimcghckjmeaaGreatDoorG10
import Derived.Lib.ItoaLen
import Derived.Test.YtcfimcghckjmeaaGreatDoorG3
set_option linter.unusedSimpArgs false
set_option linter.unusedVariables false
namespace Go.Proofs.YtcfimcghckjmeaaGreatDoor
open Go.RowKit

theorem itoa_sz (n : Int) (h : InI n) : (itoaB n).size ≤ 21 := by
  have := Lib.itoa_length_le n h.1 h.2
  unfold itoaB
  show (Lib.itoa n).toArray.size ≤ 21
  simpa using this
theorem rowB_sz : ∀ (xs : List Int) (b : ByteArray), (∀ x ∈ xs, InI x) → (rowB b xs).size ≤ b.size + 22 * xs.length
  | [], b, _ => Nat.le_refl _
  | x :: xs, b, h => by
    have h1 := rowB_sz xs (b ++ (⟨#[32]⟩ ++ itoaB x)) fun y hy => h y (List.mem_cons_of_mem _ hy)
    have h2 := itoa_sz x (h x (by simp))
    have h3 : (⟨#[32]⟩ : ByteArray).size = 1 := rfl
    simp only [ByteArray.size_append, h3] at h1
    show (rowB (b ++ _) xs).size ≤ _
    simp only [List.length_cons]
    omega
theorem Sl.ints_in {w : World} {S : Nat → Prop} {A : Option Addr} {n c : Nat} {xs : List Int} (h : Sl w S A n c xs) : ∀ x ∈ xs, InI x := fun x hx => by
  obtain ⟨k, hk, rfl⟩ := List.getElem_of_mem hx
  obtain ⟨b, off, y, us, _, _, _, hy, hus, _⟩ := h.at_ (k := k) (by rw [← h.len]; exact hk)
  rw [List.getElem?_eq_getElem hk] at hy
  rw [Option.some.inj hy]
  exact hus.2
set_option maxRecDepth 100000 in
set_option maxHeartbeats 8000000 in
theorem row5_any (t : ByteArray) (w : World) (S : Nat → Prop) (A : Option Addr) (n c : Nat) (xs : List Int) (h : Sl w S A n c xs) (hv : VarsP w) (ht : t.size ≤ 1048576) (hn1 : n ≤ 1048576) :
    Calls Tryz.prog 39 #[.string t, .slice A n c] w (RetX (.string (rowB t xs)) w) := by
  have hn := h.nle
  have HS := hide h; have HV := hide hv; have HIN := hide h.ints_in
  have HL := hide h.len
  obtain ⟨R0, hR0⟩ : ∃ R0, rowB t xs = R0 := ⟨_, rfl⟩
  rw [hR0]
  have HR0 := hide hR0
  clear h hv hR0
  go_enter Tryz.func39, Tryz.ntmps39
  go_wp2_with fail
  go_loopw [0, 9] (fun a b wr => ∃ (k : Nat) (acc : ByteArray) (u : Ext), a = .string acc ∧ b = .int .i64 k ∧ k ≤ n ∧ rowB acc (xs.drop k) = R0 ∧ acc.size ≤ t.size + 22 * k ∧ wr = w.ext u) (fun _ b _ => n - (intOf b).toNat)
  case atStart => exact ⟨0, t, _, rfl, rfl, Nat.zero_le _, HR0.out, by omega, (ext_refl w).choose_spec⟩
  case round =>
    obtain ⟨k, acc, u, rfl, rfl, hk, hr, hsz, rfl⟩ := hrel
    have HR := hide hr
    clear hr
    by_cases hlt : k < n
    · obtain ⟨b, off, x, rfl, hb, hx, hxi, hc⟩ := at_int (HS.out.ext u) hlt
      have HX := hide (drop_at hx)
      have HIT := hide (itoaP_any x hxi (w.ext u) (HV.out.ext u))
      have hz := itoa_sz x hxi
      obtain ⟨tx, htx⟩ : ∃ tx, itoaB x = tx := ⟨_, rfl⟩
      rw [htx] at HIT hz
      have HTX := hide htx
      have h32 : (⟨#[32]⟩ : ByteArray).size = 1 := rfl
      have g1 : (⟨#[32]⟩ : ByteArray).size + tx.size ≤ 9223372036854775807 := by omega
      have g2 : acc.size + (⟨#[32]⟩ ++ tx).size ≤ 9223372036854775807 := by rw [ByteArray.size_append, h32]; omega
      have HZ := hide (show (acc ++ (⟨#[32]⟩ ++ tx)).size ≤ t.size + 22 * (k + 1) by rw [ByteArray.size_append, ByteArray.size_append, h32]; omega)
      clear hx hz htx h32
      go_wp2_with (first | (go_at_call 67; refine HIT.out.mono ?_; rintro e _ ⟨rfl, u1, rfl⟩) | (simp only [run_string_add_sum _ _ _ g1, run_string_add_sum _ _ _ g2]))
      go_roundw
      case rel =>
        obtain ⟨v, hv⟩ := ext_ext w u u1
        exact ⟨k + 1, _, v, rfl, by go_num, by omega, by have := HR.out; rw [HX.out] at this; rw [← HTX.out]; exact this, HZ.out, hv⟩
      case measure => simp [intOf]; omega
    · go_wp2_with fail
      go_ret
      refine ⟨?_, u, rfl⟩
      have := HR.out
      rw [drop_end HL.out hlt] at this
      rw [← this]
      rfl
def joinB4 (a b c d : ByteArray) : ByteArray := a ++ (⟨#[32]⟩ ++ b) ++ (⟨#[32]⟩ ++ c) ++ (⟨#[32]⟩ ++ d)
theorem join4 (a b c d : ByteArray) : (⟨(Lib.join ([a, b, c, d].map (·.data.toList)) (⟨#[32]⟩ : ByteArray).data.toList).toArray⟩ : ByteArray) = joinB4 a b c d := by
  apply bytes_ext
  simp only [List.map_cons, List.map_nil, Lib.join_cons, Lib.joinTail, joinB4]
  simp
theorem join4_any (w : World) {S : Nat → Prop} {ad : Addr} (a b c d : ByteArray) (h : Sl w S (some ad) 4 4 [a, b, c, d]) (hs : (joinB4 a b c d).size ≤ 140737488355328) :
    Calls Tryz.prog 38 #[.slice (some ad) 4 4, .string ⟨#[32]⟩] w (RetX (.string (joinB4 a b c d)) w) := by
  obtain ⟨bk, o, e, hb, _, hx⟩ := h.2.2.2.2 (by omega)
  injection e with e
  subst e
  have hj := join4 a b c d
  have := Tryz.strings_Join bk o 4 [a, b, c, d] ⟨#[32]⟩ w (fun j x hj => by
    obtain ⟨us, hus, hc⟩ := hx j x hj
    obtain ⟨rfl, _⟩ := hus
    have := hc 0 _ rfl
    simpa [Rep.size] using this) hb (by simp) (by simp) (by
    have h1 := congrArg ByteArray.size hj
    rw [show (ByteArray.mk (Lib.join ([a, b, c, d].map (·.data.toList)) (⟨#[32]⟩ : ByteArray).data.toList).toArray).size = (Lib.join ([a, b, c, d].map (·.data.toList)) (⟨#[32]⟩ : ByteArray).data.toList).length from by show Array.size _ = _; simp] at h1
    omega)
  rw [hj] at this
  exact this.mono fun e w' ⟨he, hb⟩ => ⟨he, hb.to_ext⟩
def printT (m : Machine) : ByteArray × Int := if rightM m = true then (printB m, 0) else (⟨#[]⟩, 2)
theorem printB_join (m : Machine) : printB m = joinB4 (rowB tMachine [m.regs]) (rowB tArgs m.args) (rowB tRet [m.ret]) (rowB tSaved m.saved) ++ ⟨#[10]⟩ := rfl
set_option maxRecDepth 100000 in
set_option maxHeartbeats 8000000 in
theorem print5_any (w : World) (S1 S2 : Nat → Prop) (m : Machine) (A1 A2 : Option Addr) (n1 c1 n2 c2 : Nat) (h1 : Sl w S1 A1 n1 c1 m.args) (h2 : Sl w S2 A2 n2 c2 m.saved) (hi : InI m.ret) (hv : VarsP w) :
    Calls Tryz.prog 11 #[.agg #[.int .i64 m.regs, .slice A1 n1 c1, .int .i64 m.ret, .slice A2 n2 c2]] w (RetX (.tuple #[.string (printT m).1, .int .i64 (printT m).2]) w) := by
  obtain ⟨W0, hW0⟩ : ∃ W0, w.alloc (.cells #[.int .i64 m.regs, .slice A1 n1 c1, .int .i64 m.ret, .slice A2 n2 c2] 25) = W0 := ⟨_, rfl⟩
  obtain ⟨g, hg⟩ : ∃ g, w.heap.size = g := ⟨_, rfl⟩
  have hrow : W0.heap[g]? = some (.cells #[.int .i64 m.regs, .slice A1 n1 c1, .int .i64 m.ret, .slice A2 n2 c2] 25 (0, 0)) := by rw [← hW0, ← hg]; exact heap_alloc_new w _
  have k0 : W0.cell? ⟨g, 0, none⟩ = some (.int .i64 m.regs) := cell_of_row W0 g _ _ _ (0, 0) hrow
  have k1 : W0.cell? ⟨g, 1, none⟩ = some (.slice A1 n1 c1) := cell_of_row W0 g _ _ _ (0, 0) hrow
  have k2 : W0.cell? ⟨g, 2, none⟩ = some (.int .i64 m.ret) := cell_of_row W0 g _ _ _ (0, 0) hrow
  have k3 : W0.cell? ⟨g, 3, none⟩ = some (.slice A2 n2 c2) := cell_of_row W0 g _ _ _ (0, 0) hrow
  have hgl : g < W0.heap.size := by rw [← hW0, ← hg]; simp
  have HB0 := hide (show Below w.heap.size w W0 by rw [← hW0]; exact (Below.refl _ _).alloc (Nat.le_refl _) _)
  have hw0 : w.heap.size ≤ W0.heap.size := HB0.out.size
  have H1 := hide (show Sl W0 S1 A1 n1 c1 m.args by rw [← hW0]; exact h1.alloc _)
  have H2 := hide (show Sl W0 S2 A2 n2 c2 m.saved by rw [← hW0]; exact h2.alloc _)
  have HV := hide (show VarsP W0 by rw [← hW0]; exact hv.alloc _)
  have HR := hide (rightm_any W0 S1 S2 m A1 A2 n1 c1 n2 c2 H1.out H2.out hi)
  have HI := hide hi
  clear hrow h1 h2 hv hi
  cases hr : rightM m with
  | false =>
    have HG := hide (show printT m = (⟨#[]⟩, 2) by unfold printT; rw [hr]; rfl)
    rw [hr] at HR
    rw [HG.out]
    clear hr
    go_enter Tryz.func11, Tryz.ntmps11
    go_wp2_with (go_at_call 14; refine HR.out.mono ?_; rintro e _ ⟨rfl, u0, rfl⟩)
    go_ret2
    exact ⟨rfl, (HB0.out.ext hw0 u0).to_ext⟩
  | true =>
    have HG := hide (show printT m = (printB m, 0) by unfold printT; rw [hr]; rfl)
    have HNM := hide (rightM_nums hr)
    have HAL := hide (rightM_all hr)
    rw [hr] at HR
    rw [HG.out, printB_join]
    clear hr
    have HRG := hide (show InI m.regs by have := HNM.out.r; unfold InI; omega)
    obtain ⟨ra, hra⟩ : ∃ ra, rowB tMachine [m.regs] = ra := ⟨_, rfl⟩
    obtain ⟨rb, hrb⟩ : ∃ rb, rowB tArgs m.args = rb := ⟨_, rfl⟩
    obtain ⟨rc, hrc⟩ : ∃ rc, rowB tRet [m.ret] = rc := ⟨_, rfl⟩
    obtain ⟨rd, hrd⟩ : ∃ rd, rowB tSaved m.saved = rd := ⟨_, rfl⟩
    have za : ra.size ≤ 4096 := by rw [← hra]; have := rowB_sz [m.regs] tMachine (by intro x hx; simp at hx; rw [hx]; exact HRG.out); simp only [List.length_cons, List.length_nil] at this; have e : tMachine.size = 7 := rfl; omega
    have zb : rb.size ≤ 4096 := by rw [← hrb]; have := rowB_sz m.args tArgs H1.out.ints_in; have := HAL.out.2.2.1; have e : tArgs.size = 4 := rfl; omega
    have zc : rc.size ≤ 4096 := by rw [← hrc]; have := rowB_sz [m.ret] tRet (by intro x hx; simp at hx; rw [hx]; exact HI.out); simp only [List.length_cons, List.length_nil] at this; have e : tRet.size = 3 := rfl; omega
    have zd : rd.size ≤ 4096 := by rw [← hrd]; have := rowB_sz m.saved tSaved H2.out.ints_in; have := HAL.out.2.1; have := HAL.out.2.2.2.1; have e : tSaved.size = 5 := rfl; omega
    have hn1 : n1 ≤ 1048576 := by have := H1.out.len; have := HAL.out.2.2.1; omega
    have hn2 : n2 ≤ 1048576 := by have := H2.out.len; have := HAL.out.2.1; have := HAL.out.2.2.2.1; omega
    have HCa := hide (fun (W : World) (S : Nat → Prop) (b : Addr) (h : Sl W S (some b) 1 1 [m.regs]) (hv : VarsP W) => show Calls Tryz.prog 39 #[.string ⟨#[109, 97, 99, 104, 105, 110, 101]⟩, .slice (some b) 1 1] W (RetX (.string ra) W) from hra ▸ row5_any tMachine W S (some b) 1 1 [m.regs] h hv (by decide) (by decide))
    have HCb := hide (fun (W : World) (h : Sl W S1 A1 n1 c1 m.args) (hv : VarsP W) => show Calls Tryz.prog 39 #[.string ⟨#[97, 114, 103, 115]⟩, .slice A1 n1 c1] W (RetX (.string rb) W) from hrb ▸ row5_any tArgs W S1 A1 n1 c1 m.args h hv (by decide) hn1)
    have HCc := hide (fun (W : World) (S : Nat → Prop) (b : Addr) (h : Sl W S (some b) 1 1 [m.ret]) (hv : VarsP W) => show Calls Tryz.prog 39 #[.string ⟨#[114, 101, 116]⟩, .slice (some b) 1 1] W (RetX (.string rc) W) from hrc ▸ row5_any tRet W S (some b) 1 1 [m.ret] h hv (by decide) (by decide))
    have HCd := hide (fun (W : World) (h : Sl W S2 A2 n2 c2 m.saved) (hv : VarsP W) => show Calls Tryz.prog 39 #[.string ⟨#[115, 97, 118, 101, 100]⟩, .slice A2 n2 c2] W (RetX (.string rd) W) from hrd ▸ row5_any tSaved W S2 A2 n2 c2 m.saved h hv (by decide) hn2)
    have hzj : (joinB4 ra rb rc rd).size ≤ 16387 := by
      unfold joinB4
      have h3 : (⟨#[32]⟩ : ByteArray).size = 1 := rfl
      simp only [ByteArray.size_append, h3]
      omega
    have HCj := hide (fun (W : World) (S : Nat → Prop) (b : Addr) (h : Sl W S (some b) 4 4 [ra, rb, rc, rd]) => join4_any W ra rb rc rd h (by omega))
    obtain ⟨J, hJ⟩ : ∃ J, joinB4 ra rb rc rd = J := ⟨_, rfl⟩
    rw [hJ] at HCj hzj
    rw [hra, hrb, hrc, hrd, hJ]
    have g1 : J.size + (⟨#[10]⟩ : ByteArray).size ≤ 9223372036854775807 := by show J.size + 1 ≤ _; omega
    clear hra hrb hrc hrd hJ
    go_enter Tryz.func11, Tryz.ntmps11
    go_wp2_with (go_at_call 14; refine HR.out.mono ?_; rintro e _ ⟨rfl, u0, rfl⟩)
    obtain ⟨W, hW⟩ : ∃ W, W0.ext u0 = W := ⟨_, rfl⟩
    have H1W := hide (show Sl W S1 A1 n1 c1 m.args by rw [← hW]; exact H1.out.ext _)
    have H2W := hide (show Sl W S2 A2 n2 c2 m.saved by rw [← hW]; exact H2.out.ext _)
    have HVW := hide (show VarsP W by rw [← hW]; exact HV.out.ext _)
    have HBW := hide (show Below w.heap.size w W by rw [← hW]; exact HB0.out.ext hw0 _)
    have j0 : W.cell? ⟨g, 0, none⟩ = some (.int .i64 m.regs) := by rw [← hW]; exact (cell?_ext W0 u0 _ hgl).trans k0
    have j1 : W.cell? ⟨g, 1, none⟩ = some (.slice A1 n1 c1) := by rw [← hW]; exact (cell?_ext W0 u0 _ hgl).trans k1
    have j2 : W.cell? ⟨g, 2, none⟩ = some (.int .i64 m.ret) := by rw [← hW]; exact (cell?_ext W0 u0 _ hgl).trans k2
    have j3 : W.cell? ⟨g, 3, none⟩ = some (.slice A2 n2 c2) := by rw [← hW]; exact (cell?_ext W0 u0 _ hgl).trans k3
    have hglW : g < W.heap.size := by rw [← hW, size_ext]; omega
    have hwW : w.heap.size ≤ W.heap.size := HBW.out.size
    rw [hW]
    clear hW hW0 hg k0 k1 k2 k3 hgl HB0 hw0 H1 H2 HV HR HAL HNM HG
    refine wp_region_flow_ext [] [2, 9, 14] (by kernel_rfl) rfl (by kernel_rfl) ?_
    repeat (refine flow_known (by kernel_rfl) (fun K hK => ?_); go_simp; (first | (refine hK _ ?_; clear hK K) | (apply Exists.intro; refine ⟨fun _ => ?_, hK _ ?_⟩; (fail); clear hK K)))
    refine flow_keep0 (FullP 1 [m.regs]) (by kernel_rfl) (FullP.stable_ rfl) ?_ ?_
    · intro u
      go_simp
      exact ⟨FullP.lit (w := W.ext u) (S := fun _ => False) (us := #[.int .i64 m.regs]) rfl (by simp [size_ext]) (RepL.ints [m.regs] (by intro x hx; simp at hx; rw [hx]; exact HRG.out)) rfl (by decide), onW_alloc rfl ⟨u, rfl⟩⟩
    refine flow_out [true] (.string ra) (by kernel_rfl) ?_ ?_
    · intro u
      try simp only [List.nil_append, List.cons_append, useH_f, useH_t, useH_nil]
      rintro _ ⟨S, b, rfl, hs⟩
      go_simp
      exact HCa.out _ _ _ hs (HVW.out.ext u)
    repeat (refine flow_known (by kernel_rfl) (fun K hK => ?_); go_simp; (first | (refine hK _ ?_; clear hK K) | (apply Exists.intro; refine ⟨fun _ => ?_, hK _ ?_⟩; ((go_at_call 39; exact HCb.out _ (H1W.out.ext _) (HVW.out.ext _))); clear hK K)))
    refine flow_keep0 (FullP 1 [m.ret]) (by kernel_rfl) (FullP.stable_ rfl) ?_ ?_
    · intro u
      go_simp
      exact ⟨FullP.lit (w := W.ext u) (S := fun _ => False) (us := #[.int .i64 m.ret]) rfl (by simp [size_ext]) (RepL.ints [m.ret] (by intro x hx; simp at hx; rw [hx]; exact HI.out)) rfl (by decide), onW_alloc rfl ⟨u, rfl⟩⟩
    refine flow_out [false, true] (.string rc) (by kernel_rfl) ?_ ?_
    · intro u
      try simp only [List.nil_append, List.cons_append, useH_f, useH_t, useH_nil]
      rintro _ ⟨S, b, rfl, hs⟩
      go_simp
      exact HCc.out _ _ _ hs (HVW.out.ext u)
    repeat (refine flow_known (by kernel_rfl) (fun K hK => ?_); go_simp; (first | (refine hK _ ?_; clear hK K) | (apply Exists.intro; refine ⟨fun _ => ?_, hK _ ?_⟩; ((go_at_call 39; exact HCd.out _ (H2W.out.ext _) (HVW.out.ext _))); clear hK K)))
    refine flow_keep0 (FullP 4 [ra, rb, rc, rd]) (by kernel_rfl) (FullP.stable_ rfl) ?_ ?_
    · intro u
      go_simp
      exact ⟨FullP.lit (w := W.ext u) (S := fun _ => False) (us := #[.string ra, .string rb, .string rc, .string rd]) rfl (by simp [size_ext]) ⟨[.string ra], _, rfl, ⟨rfl, by unfold maxLen; omega⟩, [.string rb], _, rfl, ⟨rfl, by unfold maxLen; omega⟩, [.string rc], _, rfl, ⟨rfl, by unfold maxLen; omega⟩, [.string rd], _, rfl, ⟨rfl, by unfold maxLen; omega⟩, rfl⟩ rfl (by decide), onW_alloc rfl ⟨u, rfl⟩⟩
    refine flow_out [false, false, true] (.string J) (by kernel_rfl) ?_ ?_
    · intro u
      try simp only [List.nil_append, List.cons_append, useH_f, useH_t, useH_nil]
      rintro _ ⟨S, b, rfl, hs⟩
      go_simp
      exact HCj.out _ _ _ hs
    refine flow_out [false, false, false] (.string (J ++ ⟨#[10]⟩)) (by kernel_rfl) ?_ ?_
    · intro u
      try simp only [List.nil_append, List.cons_append, useH_f, useH_t, useH_nil]
      go_simp
      rw [if_neg (by omega)]
      exact ⟨rfl, rfl⟩
    repeat (refine flow_known (by kernel_rfl) (fun K hK => ?_); go_simp; (first | (refine hK _ ?_; clear hK K) | (apply Exists.intro; refine ⟨fun _ => ?_, hK _ ?_⟩; (fail); clear hK K)))
    refine flow_done [true, true, true] (by kernel_rfl) ?_
    intro ux
    simp only [List.nil_append, List.cons_append, endH_f, endH_t, endH_nil]
    rintro v1 _ v2 _ v3 _
    go_simp
    go_wp2_with fail
    go_ret2
    exact ⟨rfl, (HBW.out.ext hwW ux).to_ext⟩
end Go.Proofs.YtcfimcghckjmeaaGreatDoor
set_option linter.unusedSimpArgs false
set_option linter.unusedVariables false
namespace Go.Proofs.YtcfimcghckjmeaaGreatDoor
open Go.RowKit

set_option maxRecDepth 100000 in
set_option maxHeartbeats 8000000 in
theorem drow5_any (t : ByteArray) (w : World) (S : Nat → Prop) (A : Option Addr) (n c : Nat) (xs : List Int) (h : Sl w S A n c xs) (hv : VarsP w) (ht : t.size ≤ 1048576) (hn1 : n ≤ 1048576) :
    Calls Tryz.prog 40 #[.string t, .slice A n c] w (RetX (.string (rowB t xs)) w) := by
  have hn := h.nle
  have HS := hide h; have HV := hide hv; have HIN := hide h.ints_in
  have HL := hide h.len
  obtain ⟨R0, hR0⟩ : ∃ R0, rowB t xs = R0 := ⟨_, rfl⟩
  rw [hR0]
  have HR0 := hide hR0
  clear h hv hR0
  go_enter Tryz.func40, Tryz.ntmps40
  go_wp2_with fail
  go_loopw [0, 5] (fun a b wr => ∃ (k : Nat) (acc : ByteArray) (u : Ext), a = .string acc ∧ b = .int .i64 k ∧ k ≤ n ∧ rowB acc (xs.drop k) = R0 ∧ acc.size ≤ t.size + 22 * k ∧ wr = w.ext u) (fun _ b _ => n - (intOf b).toNat)
  case atStart => exact ⟨0, t, _, rfl, rfl, Nat.zero_le _, HR0.out, by omega, (ext_refl w).choose_spec⟩
  case round =>
    obtain ⟨k, acc, u, rfl, rfl, hk, hr, hsz, rfl⟩ := hrel
    have HR := hide hr
    clear hr
    by_cases hlt : k < n
    · obtain ⟨b, off, x, rfl, hb, hx, hxi, hc⟩ := at_int (HS.out.ext u) hlt
      have HX := hide (drop_at hx)
      have HIT := hide (itoaP_any x hxi (w.ext u) (HV.out.ext u))
      have hz := itoa_sz x hxi
      obtain ⟨tx, htx⟩ : ∃ tx, itoaB x = tx := ⟨_, rfl⟩
      rw [htx] at HIT hz
      have HTX := hide htx
      have h32 : (⟨#[32]⟩ : ByteArray).size = 1 := rfl
      have g1 : acc.size + (⟨#[32]⟩ : ByteArray).size ≤ 9223372036854775807 := by omega
      have g2 : (acc ++ ⟨#[32]⟩).size + tx.size ≤ 9223372036854775807 := by rw [ByteArray.size_append, h32]; omega
      have HZ := hide (show (acc ++ (⟨#[32]⟩ ++ tx)).size ≤ t.size + 22 * (k + 1) by rw [ByteArray.size_append, ByteArray.size_append, h32]; omega)
      clear hx hz htx h32
      go_wp2_with (first | (go_at_call 67; refine HIT.out.mono ?_; rintro e _ ⟨rfl, u1, rfl⟩) | (simp only [run_string_add_sum _ _ _ g1, run_string_add_sum _ _ _ g2]))
      go_roundw
      case rel =>
        obtain ⟨v, hv⟩ := ext_ext w u u1
        exact ⟨k + 1, _, v, by rw [ByteArray.append_assoc], by go_num, by omega, by have := HR.out; rw [HX.out] at this; rw [← HTX.out]; exact this, HZ.out, hv⟩
      case measure => simp [intOf]; omega
    · go_wp2_with fail
      go_ret
      refine ⟨?_, u, rfl⟩
      have := HR.out
      rw [drop_end HL.out hlt] at this
      rw [← this]
      rfl
def sArgs : ByteArray := ⟨#[32, 97, 114, 103, 115]⟩
def sRet : ByteArray := ⟨#[32, 114, 101, 116]⟩
def sSaved : ByteArray := ⟨#[32, 115, 97, 118, 101, 100]⟩
theorem sArgs_eq : sArgs = ⟨#[32]⟩ ++ tArgs := by apply bytes_ext; rfl
theorem sRet_eq : sRet = ⟨#[32]⟩ ++ tRet := by apply bytes_ext; rfl
theorem sSaved_eq : sSaved = ⟨#[32]⟩ ++ tSaved := by apply bytes_ext; rfl
theorem printB_doc (m : Machine) : printB m = rowB tMachine [m.regs] ++ rowB sArgs m.args ++ rowB sRet [m.ret] ++ rowB sSaved m.saved ++ ⟨#[10]⟩ := by
  rw [sArgs_eq, sRet_eq, sSaved_eq, rowB_app, rowB_app, rowB_app]
  rfl
set_option maxRecDepth 100000 in
set_option maxHeartbeats 8000000 in
theorem dprint5_any (w : World) (S1 S2 : Nat → Prop) (m : Machine) (A1 A2 : Option Addr) (n1 c1 n2 c2 : Nat) (h1 : Sl w S1 A1 n1 c1 m.args) (h2 : Sl w S2 A2 n2 c2 m.saved) (hi : InI m.ret) (hv : VarsP w) :
    Calls Tryz.prog 12 #[.agg #[.int .i64 m.regs, .slice A1 n1 c1, .int .i64 m.ret, .slice A2 n2 c2]] w (RetX (.tuple #[.string (printT m).1, .int .i64 (printT m).2]) w) := by
  obtain ⟨W0, hW0⟩ : ∃ W0, w.alloc (.cells #[.int .i64 m.regs, .slice A1 n1 c1, .int .i64 m.ret, .slice A2 n2 c2] 25) = W0 := ⟨_, rfl⟩
  obtain ⟨g, hg⟩ : ∃ g, w.heap.size = g := ⟨_, rfl⟩
  have hrow : W0.heap[g]? = some (.cells #[.int .i64 m.regs, .slice A1 n1 c1, .int .i64 m.ret, .slice A2 n2 c2] 25 (0, 0)) := by rw [← hW0, ← hg]; exact heap_alloc_new w _
  have k0 : W0.cell? ⟨g, 0, none⟩ = some (.int .i64 m.regs) := cell_of_row W0 g _ _ _ (0, 0) hrow
  have k1 : W0.cell? ⟨g, 1, none⟩ = some (.slice A1 n1 c1) := cell_of_row W0 g _ _ _ (0, 0) hrow
  have k2 : W0.cell? ⟨g, 2, none⟩ = some (.int .i64 m.ret) := cell_of_row W0 g _ _ _ (0, 0) hrow
  have k3 : W0.cell? ⟨g, 3, none⟩ = some (.slice A2 n2 c2) := cell_of_row W0 g _ _ _ (0, 0) hrow
  have hgl : g < W0.heap.size := by rw [← hW0, ← hg]; simp
  have HB0 := hide (show Below w.heap.size w W0 by rw [← hW0]; exact (Below.refl _ _).alloc (Nat.le_refl _) _)
  have hw0 : w.heap.size ≤ W0.heap.size := HB0.out.size
  have H1 := hide (show Sl W0 S1 A1 n1 c1 m.args by rw [← hW0]; exact h1.alloc _)
  have H2 := hide (show Sl W0 S2 A2 n2 c2 m.saved by rw [← hW0]; exact h2.alloc _)
  have HV := hide (show VarsP W0 by rw [← hW0]; exact hv.alloc _)
  have HR := hide (right5_any W0 S1 S2 m A1 A2 n1 c1 n2 c2 H1.out H2.out)
  have HI := hide hi
  clear hrow h1 h2 hv hi
  cases hr : rightM m with
  | false =>
    have HG := hide (show printT m = (⟨#[]⟩, 2) by unfold printT; rw [hr]; rfl)
    rw [hr] at HR
    rw [HG.out]
    clear hr
    go_enter Tryz.func12, Tryz.ntmps12
    go_wp2_with (go_at_call 15; refine HR.out.mono ?_; rintro e _ ⟨rfl, u0, rfl⟩)
    go_ret2
    exact ⟨rfl, (HB0.out.ext hw0 u0).to_ext⟩
  | true =>
    have HG := hide (show printT m = (printB m, 0) by unfold printT; rw [hr]; rfl)
    have HNM := hide (rightM_nums hr)
    have HAL := hide (rightM_all hr)
    rw [hr] at HR
    rw [HG.out, printB_doc]
    clear hr
    have HRG := hide (show InI m.regs by have := HNM.out.r; unfold InI; omega)
    obtain ⟨ra, hra⟩ : ∃ ra, rowB tMachine [m.regs] = ra := ⟨_, rfl⟩
    obtain ⟨rb, hrb⟩ : ∃ rb, rowB sArgs m.args = rb := ⟨_, rfl⟩
    obtain ⟨rc, hrc⟩ : ∃ rc, rowB sRet [m.ret] = rc := ⟨_, rfl⟩
    obtain ⟨rd, hrd⟩ : ∃ rd, rowB sSaved m.saved = rd := ⟨_, rfl⟩
    have za : ra.size ≤ 4096 := by rw [← hra]; have := rowB_sz [m.regs] tMachine (by intro x hx; simp at hx; rw [hx]; exact HRG.out); simp only [List.length_cons, List.length_nil] at this; have e : tMachine.size = 7 := rfl; omega
    have zb : rb.size ≤ 4096 := by rw [← hrb]; have := rowB_sz m.args sArgs H1.out.ints_in; have := HAL.out.2.2.1; have e : sArgs.size = 5 := rfl; omega
    have zc : rc.size ≤ 4096 := by rw [← hrc]; have := rowB_sz [m.ret] sRet (by intro x hx; simp at hx; rw [hx]; exact HI.out); simp only [List.length_cons, List.length_nil] at this; have e : sRet.size = 4 := rfl; omega
    have zd : rd.size ≤ 4096 := by rw [← hrd]; have := rowB_sz m.saved sSaved H2.out.ints_in; have := HAL.out.2.1; have := HAL.out.2.2.2.1; have e : sSaved.size = 6 := rfl; omega
    have hn1 : n1 ≤ 1048576 := by have := H1.out.len; have := HAL.out.2.2.1; omega
    have hn2 : n2 ≤ 1048576 := by have := H2.out.len; have := HAL.out.2.1; have := HAL.out.2.2.2.1; omega
    have HCa := hide (fun (W : World) (S : Nat → Prop) (b : Addr) (h : Sl W S (some b) 1 1 [m.regs]) (hv : VarsP W) => show Calls Tryz.prog 40 #[.string ⟨#[109, 97, 99, 104, 105, 110, 101]⟩, .slice (some b) 1 1] W (RetX (.string ra) W) from hra ▸ drow5_any tMachine W S (some b) 1 1 [m.regs] h hv (by decide) (by decide))
    have HCb := hide (fun (W : World) (h : Sl W S1 A1 n1 c1 m.args) (hv : VarsP W) => show Calls Tryz.prog 40 #[.string ⟨#[32, 97, 114, 103, 115]⟩, .slice A1 n1 c1] W (RetX (.string rb) W) from hrb ▸ drow5_any sArgs W S1 A1 n1 c1 m.args h hv (by decide) hn1)
    have HCc := hide (fun (W : World) (S : Nat → Prop) (b : Addr) (h : Sl W S (some b) 1 1 [m.ret]) (hv : VarsP W) => show Calls Tryz.prog 40 #[.string ⟨#[32, 114, 101, 116]⟩, .slice (some b) 1 1] W (RetX (.string rc) W) from hrc ▸ drow5_any sRet W S (some b) 1 1 [m.ret] h hv (by decide) (by decide))
    have HCd := hide (fun (W : World) (h : Sl W S2 A2 n2 c2 m.saved) (hv : VarsP W) => show Calls Tryz.prog 40 #[.string ⟨#[32, 115, 97, 118, 101, 100]⟩, .slice A2 n2 c2] W (RetX (.string rd) W) from hrd ▸ drow5_any sSaved W S2 A2 n2 c2 m.saved h hv (by decide) hn2)
    obtain ⟨x1, hx1⟩ : ∃ x, ra ++ rb = x := ⟨_, rfl⟩
    have y1 : x1.size ≤ 8192 := by rw [← hx1, ByteArray.size_append]; omega
    obtain ⟨x2, hx2⟩ : ∃ x, x1 ++ rc = x := ⟨_, rfl⟩
    have y2 : x2.size ≤ 12288 := by rw [← hx2, ByteArray.size_append]; omega
    obtain ⟨x3, hx3⟩ : ∃ x, x2 ++ rd = x := ⟨_, rfl⟩
    have y3 : x3.size ≤ 16384 := by rw [← hx3, ByteArray.size_append]; omega
    rw [hra, hrb, hrc, hrd, hx1, hx2, hx3]
    have g1 : x3.size + (⟨#[10]⟩ : ByteArray).size ≤ 9223372036854775807 := by show x3.size + 1 ≤ _; omega
    have HX1 := hide hx1; have HX2 := hide hx2; have HX3 := hide hx3
    clear hra hrb hrc hrd hx1 hx2 hx3
    go_enter Tryz.func12, Tryz.ntmps12
    go_wp2_with (go_at_call 15; refine HR.out.mono ?_; rintro e _ ⟨rfl, u0, rfl⟩)
    obtain ⟨W, hW⟩ : ∃ W, W0.ext u0 = W := ⟨_, rfl⟩
    have H1W := hide (show Sl W S1 A1 n1 c1 m.args by rw [← hW]; exact H1.out.ext _)
    have H2W := hide (show Sl W S2 A2 n2 c2 m.saved by rw [← hW]; exact H2.out.ext _)
    have HVW := hide (show VarsP W by rw [← hW]; exact HV.out.ext _)
    have HBW := hide (show Below w.heap.size w W by rw [← hW]; exact HB0.out.ext hw0 _)
    have j0 : W.cell? ⟨g, 0, none⟩ = some (.int .i64 m.regs) := by rw [← hW]; exact (cell?_ext W0 u0 _ hgl).trans k0
    have j1 : W.cell? ⟨g, 1, none⟩ = some (.slice A1 n1 c1) := by rw [← hW]; exact (cell?_ext W0 u0 _ hgl).trans k1
    have j2 : W.cell? ⟨g, 2, none⟩ = some (.int .i64 m.ret) := by rw [← hW]; exact (cell?_ext W0 u0 _ hgl).trans k2
    have j3 : W.cell? ⟨g, 3, none⟩ = some (.slice A2 n2 c2) := by rw [← hW]; exact (cell?_ext W0 u0 _ hgl).trans k3
    have hglW : g < W.heap.size := by rw [← hW, size_ext]; omega
    have hwW : w.heap.size ≤ W.heap.size := HBW.out.size
    rw [hW]
    clear hW hW0 hg k0 k1 k2 k3 hgl HB0 hw0 H1 H2 HV HR HAL HNM HG
    refine wp_region_flow_ext [] [2, 10] (by kernel_rfl) rfl (by kernel_rfl) ?_
    repeat (refine flow_known (by kernel_rfl) (fun K hK => ?_); go_simp; (first | (refine hK _ ?_; clear hK K) | (apply Exists.intro; refine ⟨fun _ => ?_, hK _ ?_⟩; (fail); clear hK K)))
    refine flow_keep0 (FullP 1 [m.regs]) (by kernel_rfl) (FullP.stable_ rfl) ?_ ?_
    · intro u
      go_simp
      exact ⟨FullP.lit (w := W.ext u) (S := fun _ => False) (us := #[.int .i64 m.regs]) rfl (by simp [size_ext]) (RepL.ints [m.regs] (by intro x hx; simp at hx; rw [hx]; exact HRG.out)) rfl (by decide), onW_alloc rfl ⟨u, rfl⟩⟩
    refine flow_out [true] (.string ra) (by kernel_rfl) ?_ ?_
    · intro u
      try simp only [List.nil_append, List.cons_append, useH_f, useH_t, useH_nil]
      rintro _ ⟨S, b, rfl, hs⟩
      go_simp
      exact HCa.out _ _ _ hs (HVW.out.ext u)
    repeat (refine flow_known (by kernel_rfl) (fun K hK => ?_); go_simp; (first | (refine hK _ ?_; clear hK K) | (apply Exists.intro; refine ⟨fun _ => ?_, hK _ ?_⟩; ((go_at_call 40; exact HCb.out _ (H1W.out.ext _) (HVW.out.ext _))); clear hK K)))
    refine flow_out [false] (.string x1) (by kernel_rfl) ?_ ?_
    · intro u
      try simp only [List.nil_append, List.cons_append, useH_f, useH_t, useH_nil]
      go_simp
      rw [if_neg (by omega)]
      exact ⟨rfl, by rw [HX1.out]⟩
    repeat (refine flow_known (by kernel_rfl) (fun K hK => ?_); go_simp; (first | (refine hK _ ?_; clear hK K) | (apply Exists.intro; refine ⟨fun _ => ?_, hK _ ?_⟩; (fail); clear hK K)))
    refine flow_keep0 (FullP 1 [m.ret]) (by kernel_rfl) (FullP.stable_ rfl) ?_ ?_
    · intro u
      go_simp
      exact ⟨FullP.lit (w := W.ext u) (S := fun _ => False) (us := #[.int .i64 m.ret]) rfl (by simp [size_ext]) (RepL.ints [m.ret] (by intro x hx; simp at hx; rw [hx]; exact HI.out)) rfl (by decide), onW_alloc rfl ⟨u, rfl⟩⟩
    refine flow_out [false, true] (.string rc) (by kernel_rfl) ?_ ?_
    · intro u
      try simp only [List.nil_append, List.cons_append, useH_f, useH_t, useH_nil]
      rintro _ ⟨S, b, rfl, hs⟩
      go_simp
      exact HCc.out _ _ _ hs (HVW.out.ext u)
    refine flow_out [false, false] (.string x2) (by kernel_rfl) ?_ ?_
    · intro u
      try simp only [List.nil_append, List.cons_append, useH_f, useH_t, useH_nil]
      go_simp
      rw [if_neg (by omega)]
      exact ⟨rfl, by rw [HX2.out]⟩
    repeat (refine flow_known (by kernel_rfl) (fun K hK => ?_); go_simp; (first | (refine hK _ ?_; clear hK K) | (apply Exists.intro; refine ⟨fun _ => ?_, hK _ ?_⟩; ((go_at_call 40; exact HCd.out _ (H2W.out.ext _) (HVW.out.ext _))); clear hK K)))
    refine flow_out [false, false] (.string x3) (by kernel_rfl) ?_ ?_
    · intro u
      try simp only [List.nil_append, List.cons_append, useH_f, useH_t, useH_nil]
      go_simp
      rw [if_neg (by omega)]
      exact ⟨rfl, by rw [HX3.out]⟩
    repeat (refine flow_known (by kernel_rfl) (fun K hK => ?_); go_simp; (first | (refine hK _ ?_; clear hK K) | (apply Exists.intro; refine ⟨fun _ => ?_, hK _ ?_⟩; (fail); clear hK K)))
    refine flow_done [true, true] (by kernel_rfl) ?_
    intro ux
    simp only [List.nil_append, List.cons_append, endH_f, endH_t, endH_nil]
    rintro v1 _ v2 _
    go_simp
    go_wp2_with (simp only [run_string_add_sum _ _ _ g1])
    go_ret2
    exact ⟨rfl, (HBW.out.ext hwW ux).to_ext⟩
end Go.Proofs.YtcfimcghckjmeaaGreatDoor
