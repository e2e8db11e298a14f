/- Maps of the call's own, in a round of a range over a function; slices as a map's elements. -/
import Derived.Test.YtbppamjogdjfkaaMp
import Derived.Test.YtbppamjogdjfkaaOwn
import Derived.Test.YtbppamjogdjfkaaAP1
import Derived.OwnWalkIn
import Derived.Maps.OwnIn
import Derived.Lib.SlKeysI
import Derived.RangeFuncNested
set_option linter.unusedSimpArgs false
set_option linter.unusedVariables false
namespace Go.Proofs.Ytbppamjogdjfkaa
open Go.RowKit Go.Maps

section
variable {P : Program} {α β : Type} {K : KeyT P α} {E : ElT P β} {w w' : World} {b n : Nat} {f : α → Option β} {F : Fence} {nF : Nat}
variable {ops : Array Oper} {rest : List Oper} {o : Oper} {a : Act} {Q : Exit → Act → World → Prop}
theorem wpListIn_put_map [DecidableEq α] (hg : o.guard = none) (m x v : Operand) (t : TypeId) (hop : o.op = Op.mapUpdate t m x v) (ht : P.underlying t = some (.map K.t E.e)) (hm : a.eval m = .map (some b)) (hown : MapP K E w b n f) (hn : n < maxLen) (k : α) (hx : a.eval x = K.val k) (hk : K.good k) (y : β) (hv : a.eval v = E.val y) (hy : E.good y)
    (hK : ∀ w', MapP K E w' b (n + 1) (upd f k (some y)) → w.grownBy w' (some b) → wpListIn F nF P ops Q rest (a.put o.dst undef) w') : wpListIn F nF P ops Q (o :: rest) a w := by
  refine wpListIn_plain hg fun K' hK' => ?_
  obtain ⟨w', hrun, r1, r2⟩ := hown.put ht hn hk hy
  unfold Oper.wpIn
  refine ⟨by simp [Oper.about, hop], ?_⟩
  rw [Oper.semAt_plain F _ _ (by rw [hop]; intro c hc'; cases hc')]
  simp [execOp, hop, hm, hx, hv, hrun, Result.andThen]
  exact hK' _ _ (hK w' r1 r2)
theorem wpListIn_del_map [DecidableEq α] (hg : o.guard = none) (m x : Operand) (t : TypeId) (hop : o.op = Op.call { callee := Callee.builtin Builtin.delete, args := #[m, x], argTypes := #[t, K.t] }) (ht : P.underlying t = some (.map K.t E.e)) (hm : a.eval m = .map (some b)) (hown : MapP K E w b n f) (k : α) (hx : a.eval x = K.val k) (hk : K.good k)
    (hK : ∀ w', MapP K E w' b n (upd f k none) → w.grownBy w' (some b) → wpListIn F nF P ops Q rest (a.put o.dst (.tuple #[])) w') : wpListIn F nF P ops Q (o :: rest) a w := by
  refine wpListIn_plain hg fun K' hK' => ?_
  obtain ⟨w', hrun, r1, r2⟩ := hown.del ht o.type hk
  unfold Oper.wpIn
  refine ⟨by simp [Oper.about, hop, resolve, Target.leads, Sem.run_pure], ?_⟩
  rw [Oper.semAt_plain F _ _ (by rw [hop]; intro c hc'; cases hc')]
  simp [execOp, hop, resolve, invoke, builtin, hm, hx, hrun, Result.andThen]
  exact hK' _ _ (hK w' r1 r2)
end

section
variable {P : Program} {β : Type} {E : ElT P β} {w : World} {b n : Nat} {f : Int → Option β}
/-- The keys of a map whose keys are numbers. -/
theorem MapP.intKeys {k : TypeId} {hk : P.underlying k = some (.int .i64)} (h : MapP (intK k hk) E w b n f) : ∃ D, w.ownsMap P k E.R b n D ∧ (Go.intKeys D).Nodup ∧ ∀ x, x ∈ Go.intKeys D ↔ (f x).isSome = true := by
  obtain ⟨D, h1, h2, h3⟩ := h
  refine ⟨D, h1, ?_⟩
  obtain ⟨es, clock, hb, F, hs, rfl⟩ := h1
  have hinv : ∀ p ∈ es.toList.map (WideElems.rg P k E.R), ∃ x, InI x ∧ p.1 = .int .i64 x := fun p hp => by
    obtain ⟨v, hv⟩ := Maps.fit_keys F p hp
    obtain ⟨x, hx, _, hl⟩ := (intK k hk).inv _ _ hv
    exact ⟨x, hx, hl⟩
  have hap := Maps.fit_apart (intK k hk).law F
  constructor
  · have hnd : ∀ l : List (Lit × DataW Unit), (∀ p ∈ l, ∃ x, InI x ∧ p.1 = .int .i64 x) → l.Pairwise (fun p q => p.1 ≠ q.1) → (l.map fun p => Go.intOf p.1).Nodup := fun l hl hp =>
      List.pairwise_map.2 (hp.imp_of_mem fun {p q} hp' hq' hne e => hne (by
        obtain ⟨a, _, ha⟩ := hl p hp'
        obtain ⟨c, _, hc⟩ := hl q hq'
        rw [ha, hc] at e ⊢
        exact congrArg _ e))
    exact ((Go.WideShapes.sorted_perm _).map _).nodup_iff.2 (hnd _ hinv hap)
  · intro x
    show x ∈ List.map (fun p : Lit × DataW Unit => Go.intOf p.1) _ ↔ _
    rw [List.mem_map]
    constructor
    · rintro ⟨p, hp, rfl⟩
      obtain ⟨y, hy, e⟩ := hinv p (mem_sorted.1 hp)
      have hx : Go.intOf p.1 = y := by rw [e]; rfl
      rw [hx, ← (h2 y hy).1]
      exact List.any_eq_true.2 ⟨p, hp, by rw [e]; exact WideAt.sameKey_self ((intK k hk).law.key ((intK k hk).of y hy))⟩
    · intro hx
      have hg := h3 x hx
      rw [← (h2 x hg).1] at hx
      obtain ⟨p, hp, hpk⟩ := List.any_eq_true.1 hx
      exact ⟨p, hp, by rw [WideAt.sameKey_eq hpk]; rfl⟩
end

section
variable {P : Program} {α : Type} [Rep α] {F : Fence} {nF : Nat} {ops : Array Oper} {rest : List Oper} {o : Oper} {a : Act} {Q : Exit → Act → World → Prop}
theorem wpListIn_push_at (w : World) (hgd : o.guard = none) (s x : Operand) (t : TypeId)
    (ho : o.op = .call { callee := .builtin .append, args := #[s, x], argTypes := #[t, t] })
    (base : Nat) (T : TypeId) (i : TypeInfo) (z : Value) (bytes : Nat) (ht : P.underlying t = some (.slice T)) (hi : P.info? T = some i) (hz : i.zero = some z)
    (hsize : i.size = Rep.size α) (hby : i.bytes = bytes) (hzs : z.cells.size = Rep.size α) (hsz : 0 < Rep.size α)
    (S S' : Nat → Prop) (v : Value) (xs ys : List α) (hs : a.eval s = v) (hown : OwnL w base T S v xs)
    (ad : Addr) (m c : Nat) (us : List Value) (hx : a.eval x = .slice (some ad) m c) (hm : ys.length = m) (hr : RepL w S' ys us) (hnews : ∀ j u, us[j]? = some u → w.cell? (ad.add j) = some u)
    (hSS : ∀ b, b < w.heap.size → S b → S' b) (hap : ∀ g, v.ownBlock = some g → ¬ S' g) (hnew : ∀ b, S' b → b < w.heap.size)
    (h63 : xs.length + m ≤ maxLen) (hbytes : (xs.length + m) * bytes ≤ 140737488355328) (hbase : base ≤ w.heap.size)
    (h : ∀ v' w', OwnL w' base T S' v' (xs ++ ys) → w.grownBy w' v.ownBlock → (v'.ownBlock = v.ownBlock ∨ v'.ownBlock = some w.heap.size) → wpListIn F nF P ops Q rest (a.put o.dst v') w') : wpListIn F nF P ops Q (o :: rest) a w := by
  obtain ⟨vals, hrow, hrep, hapart⟩ := hown
  obtain ⟨v', w', hrun, h2, h3, _, h5⟩ := run_append_own_at (P := P) w base t o.type T i z (Rep.size α) bytes ht hi hz hsize hby hzs hsz v xs.length vals hrow ad m c us (by rw [RepL.len hr, hm]) hnews hr.one h63 hbytes hbase
  refine wpListIn_plain hgd fun _ hK => ?_
  unfold Oper.wpIn
  refine ⟨by simp [Oper.about, ho, resolve, Target.leads, Sem.run_pure], ?_⟩
  rw [Oper.semAt_plain F _ _ (by rw [ho]; intro c hc'; cases hc')]
  unfold execOp
  simp only [ho, resolve, invoke, builtin, Sem.run_bind, Sem.run_pure, Result.andThen_ok, List.map_toArray, List.map_cons, List.map_nil, hs, hx, hrun]
  refine hK _ _ (h v' w' ⟨vals ++ us, by rw [List.length_append, hm]; exact h2, ?_, ?_⟩ h3 h5)
  · refine RepL.keep (w := w) (RepL.append (hrep.more hSS) hr) h3.size fun b hb hlt => h3.block b hlt fun e => hap b e.symm hb
  · intro g hg hS
    rcases h5 with e | e
    · rw [e] at hg; exact hap g hg hS
    · rw [e] at hg; injection hg with hg; subst hg; exact absurd (hnew _ hS) (by omega)
/-- append of one element that has just been laid. -/
theorem wpListIn_push (W : World) (us : List Value) (T' : TypeId) (hgd : o.guard = none) (s x : Operand) (t : TypeId)
    (ho : o.op = .call { callee := .builtin .append, args := #[s, x], argTypes := #[t, t] })
    (base : Nat) (T : TypeId) (i : TypeInfo) (z : Value) (bytes : Nat) (ht : P.underlying t = some (.slice T)) (hi : P.info? T = some i) (hz : i.zero = some z)
    (hsize : i.size = Rep.size α) (hby : i.bytes = bytes) (hzs : z.cells.size = Rep.size α) (hsz : 0 < Rep.size α)
    (S S' : Nat → Prop) (v : Value) (xs : List α) (y : α) (hs : a.eval s = v) (hown : OwnL W base T S v xs)
    (g : Nat) (hx : a.eval x = .slice (some ⟨g, 0, none⟩) 1 1) (hgW : g = W.heap.size) (hr : Rep.is W S' y us)
    (hSS : ∀ b, S b → S' b) (hap : ∀ g, v.ownBlock = some g → ¬ S' g) (hnew : ∀ b, S' b → b < W.heap.size)
    (hlen : (xs.length + 1) * bytes ≤ 140737488355328) (hlen' : xs.length + 1 ≤ 9223372036854775807) (hbase : base ≤ W.heap.size)
    (h : ∀ v' w', OwnL w' base T S' v' (xs ++ [y]) → (W.alloc (.cells us.toArray T')).grownBy w' v.ownBlock → (v'.ownBlock = v.ownBlock ∨ v'.ownBlock = some (W.heap.size + 1)) → wpListIn F nF P ops Q rest (a.put o.dst v') w') :
    wpListIn F nF P ops Q (o :: rest) a (W.alloc (.cells us.toArray T')) := by
  subst hgW
  have hlaid : ∀ j u, us[j]? = some u → (W.alloc (.cells us.toArray T')).cell? ((⟨W.heap.size, 0, none⟩ : Addr).add j) = some u := by
    intro j u hj
    have hadd : (⟨W.heap.size, 0, none⟩ : Addr).add j = ⟨W.heap.size, j, none⟩ := by unfold Addr.add; split <;> simp_all
    rw [hadd, World.cell?_alloc_new]; simpa using hj
  refine wpListIn_push_at (α := α) _ hgd s x t ho base T i z bytes ht hi hz hsize hby hzs hsz S S' v xs [y] hs (hown.alloc _) ⟨W.heap.size, 0, none⟩ 1 1 us hx rfl
    (RepL.single (Rep.keep hr (by simp) fun b _ hb => Below.heap_alloc W _ b hb)) hlaid (fun b _ hS => hSS b hS) hap (fun b hb => by have := hnew b hb; simp; omega)
    (by unfold maxLen; omega) hlen (by simp; omega) (fun v' w' h1 h2 h3 => h v' w' h1 h2 (by simpa using h3))
end

theorem OwnL.lowB {α : Type} [Rep α] {w : World} {b b' : Nat} {T : TypeId} {S : Nat → Prop} {v : Value} {xs : List α} (h : OwnL w b T S v xs) (hb : b' ≤ b) : OwnL w b' T S v xs := by
  obtain ⟨vals, ⟨h1, h2⟩, hr, ha⟩ := h
  refine ⟨vals, ⟨h1, ?_⟩, hr, ha⟩
  rcases h2 with h2 | ⟨g, cap, cur, e, hg, rest⟩
  · exact .inl h2
  · exact .inr ⟨g, cap, cur, e, Nat.le_trans hb hg, rest⟩
/-! ### a slice of the call's own as a map's element -/
structure OHdr where
  b : Option Nat
  n : Nat
  c : Nat
  deriving DecidableEq, Inhabited
abbrev OHdr.h (x : OHdr) : Hdr := ⟨x.b.map fun g => ⟨g, 0, none⟩, x.n, x.c⟩
abbrev OHdr.v (x : OHdr) : Value := .slice (x.b.map fun g => ⟨g, 0, none⟩) x.n x.c
theorem OHdr.own (x : OHdr) : x.v.ownBlock = x.b := by obtain ⟨b, n, c⟩ := x; cases b <;> rfl
noncomputable def ohdrR : Value → Option (DataW Unit × List MemPlace)
  | .slice none n c => some (.agg [.nil, .lit (.int .i64 n), .lit (.int .i64 c)], [])
  | .slice (some ⟨g, 0, none⟩) n c => some (.agg [.lit (.int .i64 g), .lit (.int .i64 n), .lit (.int .i64 c)], [])
  | _ => none
section
variable {P : Program}
noncomputable def ohdrE (e : TypeId) (hz : ∀ w, (zeroValue e).run P w = .ok (.slice none 0 0) w) : ElT P OHdr where
  e := e
  R := ohdrR
  good _ := True
  val x := .slice (x.b.map fun g => ⟨g, 0, none⟩) x.n x.c
  dat x := match x.b with | none => .agg [.nil, .lit (.int .i64 x.n), .lit (.int .i64 x.c)] | some g => .agg [.lit (.int .i64 g), .lit (.int .i64 x.n), .lit (.int .i64 x.c)]
  zero := ⟨none, 0, 0⟩
  of y _ := by obtain ⟨b, n, c⟩ := y; cases b <;> rfl
  inv v z h := by
    unfold ohdrR at h
    split at h
    · cases h; exact ⟨⟨none, _, _⟩, trivial, rfl, rfl⟩
    · cases h; exact ⟨⟨some _, _, _⟩, trivial, rfl, rfl⟩
    · cases h
  inj x y h := by
    obtain ⟨b, n, c⟩ := x; obtain ⟨b', n', c'⟩ := y
    cases b <;> cases b' <;> simp at h ⊢ <;> omega
  good0 := trivial
  zero_run := hz
end
theorem OwnL.ohdr {α : Type} [Rep α] {w : World} {B : Nat} {T : TypeId} {S : Nat → Prop} {v : Value} {xs : List α} (h : OwnL w B T S v xs) : ∃ x : OHdr, v = x.v ∧ x.n = xs.length := by
  obtain ⟨vals, ⟨_, h2⟩, _⟩ := h
  rcases h2 with ⟨rfl, h0⟩ | ⟨g, cap, cur, rfl, _⟩
  · exact ⟨⟨none, 0, 0⟩, rfl, by rw [h0]⟩
  · exact ⟨⟨some g, xs.length, cap⟩, rfl, rfl⟩
/-- What a map's slices read as: each of the call's own, none in another's block. -/
structure RowsM (w : World) (B : Nat) (F : Int → Option OHdr) (f : Int → List Int) : Prop where
  own : ∀ (c : Int) (h : OHdr), F c = some h → OwnL w B 3 (fun _ => False) h.v (f c)
  ne : ∀ (c d : Int) (x y : OHdr) (g : Nat), F c = some x → F d = some y → c ≠ d → x.b = some g → y.b ≠ some g
  non : ∀ c, F c = none → f c = []
  dom : ∀ c h, F c = some h → f c ≠ []
section
variable {w w' : World} {B : Nat} {F : Int → Option OHdr} {f f' : Int → List Int}
theorem RowsM.made (w : World) (B : Nat) (hf : ∀ c, f c = []) : RowsM w B (fun _ => none) f := ⟨fun _ _ h => (by cases h), fun _ _ _ _ _ h => (by cases h), fun c _ => hf c, fun _ _ h => (by cases h)⟩
theorem RowsM.keep (R : RowsM w B F f) (hs : w.heap.size ≤ w'.heap.size) (hb : ∀ (c : Int) (h : OHdr) (g : Nat), F c = some h → h.b = some g → w'.heap[g]? = w.heap[g]?) : RowsM w' B F f :=
  ⟨fun c h hc => (R.own c h hc).keep hs (fun _ hf => hf.elim) fun g hg => hb c h g hc (by rw [OHdr.own] at hg; exact hg), R.ne, R.non, R.dom⟩
theorem RowsM.lt (R : RowsM w B F f) {c : Int} {h : OHdr} {g : Nat} (hc : F c = some h) (hg : h.b = some g) : B ≤ g ∧ g < w.heap.size := (R.own c h hc).below_ g (by rw [OHdr.own]; exact hg)
/-- Blocks that a step turns are none of the rows'. -/
theorem RowsM.kept (R : RowsM w B F f) {row : Option Nat} (hg : w.grownBy w' row) (hr : ∀ r, row = some r → ∀ (c : Int) (h : OHdr), F c = some h → h.b ≠ some r) : RowsM w' B F f :=
  R.keep hg.size fun c h g hc hb => hg.block g (R.lt hc hb).2 fun e => hr g e.symm c h hc hb
theorem OwnL.cellsB {α : Type} [Rep α] {T : TypeId} {S : Nat → Prop} {v : Value} {xs : List α} {g : Nat} (h : OwnL w B T S v xs) (hg : v.ownBlock = some g) : ∃ cur, w.heap[g]? = some (.cells cur T (0, 0)) := by
  obtain ⟨vals, ⟨_, h2⟩, _⟩ := h
  rcases h2 with ⟨rfl, _⟩ | ⟨g', cap, cur, rfl, _, hh, _⟩
  · cases hg
  · injection hg with e
    simp only at e
    subst e
    exact ⟨cur, hh⟩
theorem RowsM.kept_other (R : RowsM w B F f) {row : Option Nat} (hg : w.grownBy w' row) (hr : ∀ r, row = some r → ∃ o : Obj, w.heap[r]? = some o ∧ o.isCells = false) : RowsM w' B F f :=
  R.kept hg fun r e c h hc hb => by
    obtain ⟨o, ho, hn⟩ := hr r e
    obtain ⟨cur, hcur⟩ := (R.own c h hc).cellsB (g := r) (by rw [OHdr.own]; exact hb)
    rw [ho] at hcur
    injection hcur with hcur
    subst hcur
    cases hn
theorem RowsM.getD (R : RowsM w B F f) (c : Int) : OwnL w B 3 (fun _ => False) ((F c).getD ⟨none, 0, 0⟩).v (f c) := by
  cases hc : F c with
  | none => rw [R.non c hc]; exact OwnL.nil_ _ _ _ _
  | some h => exact R.own c h hc
/-- One row more, or a longer one. -/
theorem RowsM.put (R : RowsM w B F f) {c : Int} {h : OHdr} {xs : List Int} (hs : w.heap.size ≤ w'.heap.size) (hb : ∀ g, B ≤ g → g < w.heap.size → ((F c).getD ⟨none, 0, 0⟩).b ≠ some g → w'.heap[g]? = w.heap[g]?)
    (ho : OwnL w' B 3 (fun _ => False) h.v xs) (h5 : h.b = ((F c).getD ⟨none, 0, 0⟩).b ∨ ∀ g, h.b = some g → w.heap.size ≤ g) (hx : ∀ d, f' d = if d = c then xs else f d) (hxs : xs ≠ []) : RowsM w' B (upd F c (some h)) f' := by
  have hne : ∀ d y g, d ≠ c → F d = some y → y.b = some g → ((F c).getD ⟨none, 0, 0⟩).b ≠ some g := fun d y g hd hy hg => by
    cases hc : F c with
    | none => intro e; cases e
    | some z => exact R.ne d c y z g hy hc hd hg
  refine ⟨fun d z hz => ?_, fun d e x y g hx' hy' hde hxb hyb => ?_, fun d hd => ?_, fun d z hz => ?_⟩
  · by_cases hd : d = c
    · subst hd
      rw [hx, if_pos rfl]
      simp [upd] at hz
      subst hz
      exact ho
    · rw [hx, if_neg hd]
      simp [upd, hd] at hz
      exact (R.own d z hz).keep hs (fun _ hf => hf.elim) fun g hg => by rw [OHdr.own] at hg; exact hb g (R.lt hz hg).1 (R.lt hz hg).2 (hne d z g hd hz hg)
  · by_cases hd : d = c
    · by_cases he : e = c
      · exact hde (hd.trans he.symm)
      · simp [upd, hd] at hx'
        simp [upd, he] at hy'
        subst hx'
        rcases h5 with h5 | h5
        · rw [h5] at hxb; exact hne e y g he hy' hyb hxb
        · have := h5 g hxb; have := (R.lt hy' hyb).2; omega
    · simp [upd, hd] at hx'
      by_cases he : e = c
      · simp [upd, he] at hy'
        subst hy'
        rcases h5 with h5 | h5
        · rw [h5] at hyb; exact hne d x g hd hx' hxb hyb
        · have := h5 g hyb; have := (R.lt hx' hxb).2; omega
      · simp [upd, he] at hy'
        exact R.ne d e x y g hx' hy' hde hxb hyb
  · by_cases e : d = c
    · simp [upd, e] at hd
    · simp [upd, e] at hd
      rw [hx, if_neg e]; exact R.non d hd
  · rw [hx]
    by_cases e : d = c
    · rw [if_pos e]; exact hxs
    · simp [upd, e] at hz
      rw [if_neg e]; exact R.dom d z hz
end
end Go.Proofs.Ytbppamjogdjfkaa
