/- A logic of values over the model: what each operation, call and loop makes of the state, shown right against the model. No condition beyond those that each theorem names. -/
import Derived.Test.YtcmdkiejkheahaaDoorWordsA
import Derived.Laws.BytesArg
import Derived.LoopN
import Derived.Below
set_option linter.unusedVariables false
set_option linter.unusedSimpArgs false
namespace Go.WL
section
variable {P : Program} {D : Tabs} {B : Base}

/-- A piece of a box is written. -/
theorem boxput_ok2 {E : Env} {nt : Nat} {tm : List (Nat × AV)} {bx : List (AV × Bool)} {lv : List Nat} {nx : Nat} {tmps : Array Value} (h : Sim D B E ⟨nt, tm, ⟨bx, lv, nx⟩⟩ tmps) {id b o : Nat} {s : Shape} {p : List Nat} {v : AV} {vs : List Value} {c : AV} {cs : Array Value} {ty : TypeId} {fz : Nat × Nat} {K : AV → Prop}
    (hc : bx[id]? = some (c, false)) (hb : E.bx[id]? = some b) (hs : c.shape = s) (hoff : offS s p = some o) (hh : E.w.heap[b]? = some (.cells cs ty fz)) (hir : IR E (shsOf bx) c cs.toList) (hl : E.lim b = 0) (hv : IR E (shsOf bx) v vs) (hw : wrK c p v K) :
    ∃ c' E', K c' ∧ Sim D B E' ⟨nt, tm, ⟨bx.set id (c', false), lv, nx⟩⟩ tmps ∧ E'.w = setBlk E.w b (.cells (putL cs o vs) ty fz) ∧ o + vs.length ≤ cs.size ∧ E'.bx = E.bx ∧ c'.shape = c.shape := by
  obtain ⟨c', o', h1, h2, h3, h4, _, h5⟩ := wr_ok E (shsOf bx) p c v cs.toList vs K hir hv hw
  rw [hs, hoff] at h3
  simp only [Option.some.injEq] at h3
  subst h3
  have hle : o + vs.length ≤ cs.size := by
    have := IR_len c _ hir
    simp only [Array.length_toList] at this
    omega
  have ht := h.tidy
  have hir' : IR (E.bury lv) (shsOf bx) c' (putL cs o vs).toList := by rw [putL_list hle]; exact (tra_bury lv).ir h5
  have hdead := Sim.box_dead (σ := ⟨nt, tm, ⟨bx, lv, nx⟩⟩) ht (id := id) (b := b) hb
  have t0 : TrA (E.bury lv) ((E.bury lv).setBlk b (putL cs o vs) ty fz 0) (shsOf bx) (shsOf bx) := tra_setBlk (E := E.bury lv) hh (by rw [show (E.bury lv).lim b = 0 from hl]; exact Nat.le_refl _) (fun i hi => by rw [show (E.bury lv).lim b = 0 from hl] at hi; omega) (putL_size _ _ _) (fun r hr => absurd hr (hdead r))
  have := ht.boxset (f' := false) (l := 0) (cs' := putL cs o vs) hc hb hh (putL_size _ _ _) (fun i hi => by rw [show (E.bury lv).lim b = 0 from hl] at hi; omega) (by rw [show (E.bury lv).lim b = 0 from hl]; exact Nat.le_refl _) h2 hdead (t0.ir hir') (fun h => by simp at h) (fun _ => rfl)
  exact ⟨c', _, h1, this, rfl, hle, rfl, h2⟩

theorem boxput_ok {E : Env} {nt : Nat} {tm : List (Nat × AV)} {bx : List (AV × Bool)} {lv : List Nat} {nx : Nat} {tmps : Array Value} (h : Sim D B E ⟨nt, tm, ⟨bx, lv, nx⟩⟩ tmps) {id b o : Nat} {s : Shape} {p : List Nat} {v : AV} {vs : List Value} {c : AV} {cs : Array Value} {ty : TypeId} {fz : Nat × Nat} {K : AV → Prop}
    (hc : bx[id]? = some (c, false)) (hb : E.bx[id]? = some b) (hs : c.shape = s) (hoff : offS s p = some o) (hh : E.w.heap[b]? = some (.cells cs ty fz)) (hir : IR E (shsOf bx) c cs.toList) (hl : E.lim b = 0) (hv : IR E (shsOf bx) v vs) (hw : wrK c p v K) :
    ∃ c' E', K c' ∧ Sim D B E' ⟨nt, tm, ⟨bx.set id (c', false), lv, nx⟩⟩ tmps ∧ E'.w = setBlk E.w b (.cells (putL cs o vs) ty fz) ∧ o + vs.length ≤ cs.size := by
  obtain ⟨c', E', k1, k2, k3, k4, _⟩ := boxput_ok2 h hc hb hs hoff hh hir hl hv hw
  exact ⟨c', E', k1, k2, k3, k4⟩

theorem wStore_ok (hT : TabOK P D) {E : Env} {nt : Nat} {tm : List (Nat × AV)} {bx : List (AV × Bool)} {lv : List Nat} {nx : Nat} {tmps : Array Value} (h : Sim D B E ⟨nt, tm, ⟨bx, lv, nx⟩⟩ tmps) {t : Nat} {ti : TI} {a v : AV} {u x : Value} {K : AS → Prop} (ht : lookT D.ty t = some ti) (hs : v.shape = ti.sh) (ha : Rep E (shsOf bx) a u) (hv : Rep0 E (shsOf bx) v x) (hk : wStore nt tm bx lv nx a v K) :
    ∃ E' σ', K σ' ∧ Sim D B E' σ' tmps ∧ (Instr.storeAt t u x).run P E.w = .ok () E'.w := by
  unfold wStore at hk
  split at hk
  · rename_i id p
    obtain ⟨b, s, o, h1, h2, h3, rfl⟩ := rep_pt ha
    obtain ⟨c, f, cs, ty, fz, g1, g2, g3, g4, g5, g6, _, g8⟩ := box_at h h1 h2 hk
    cases f with
    | true => exact g2.elim
    | false =>
      simp only at g2
      obtain ⟨c', E', k1, k2, k3, k4⟩ := boxput_ok h g1 h1 g3 h3 g4 g6 (g8 rfl) (rep0_cells hv) g2
      refine ⟨E', _, forceB_of _ _ k1, k2, ?_⟩
      have := run_storeVar (P := P) (hT t _ ht) hs hv g4 g5 (by simpa using k4)
      simp [Instr.storeAt, Instr.sureAddr, this, k3]
  · exact hk.elim

/-- What is appended or copied: its cells, ahead of all. -/
structure SrcOK (P : Program) (E : Env) (size : Nat) (s : Shape) (x : Value) (ys : List AV) : Prop where
  all : allSh s ys
  cells : ∃ ps, PRs E.w E.lim ys ps ∧ ∀ k, k ≤ ys.length → ∀ w, (∀ b o u, E.w.cell? ⟨b, o, none⟩ = some u → w.cell? ⟨b, o, none⟩ = some u) → (Builtin.firstCells size k x).run P w = .ok (ps.flatten.take (k * s.size)).toArray w
  len : ∀ w, (Builtin.lenOf x).run P w = .ok ys.length w
  slc : ∀ k n, x ≠ .int k n

theorem src_lies {E : Env} {s : Shape} {a : Option Addr} {n c : Nat} {ys : List AV} {ps : List (List Value)} (hall : allSh s ys) (hn : ys.length = n) (hp : PRs E.w E.lim ys ps)
    (hl : ys = [] ∨ ∃ ad : Addr, a = some ad ∧ ad.spot = none ∧ ∀ i u, ps.flatten[i]? = some u → E.w.cell? ⟨ad.block, ad.off + i, none⟩ = some u) : SrcOK P E s.size s (.slice a n c) ys := by
  subst hn
  have hlen : ps.flatten.length = ys.length * s.size := by rw [PRs_len ys ps hp, sizes_all hall]
  refine ⟨hall, ⟨ps, hp, fun k hk w hw => ?_⟩, fun w => rfl, fun _ _ => by simp⟩
  rcases hl with rfl | ⟨ad, rfl, hsp, hc⟩
  · have hk0 : k = 0 := by simpa using hk
    subst hk0
    cases a with
    | none => simp [Builtin.firstCells]
    | some ad => simp [Builtin.firstCells, loadCells, loadCellsFrom]
  · have hkl : k * s.size ≤ ps.flatten.length := by rw [hlen]; exact Nat.mul_le_mul_right _ hk
    have := run_loadCells_lies (P := P) (w := w) hsp (k * s.size) 0 #[] (ps.flatten.take (k * s.size)) (by rw [List.length_take, Nat.min_eq_left hkl]) (fun j u hu => by
      rw [List.getElem?_take] at hu
      split at hu
      · rw [Nat.zero_add]; exact hw _ _ _ (hc j u hu)
      · simp at hu)
    simp only [Builtin.firstCells, loadCells, this]
    simp

theorem readS_ok {E : Env} {nt : Nat} {tm : List (Nat × AV)} {bx : List (AV × Bool)} {lv : List Nat} {nx : Nat} {tmps : Array Value} (h : Sim D B E ⟨nt, tm, ⟨bx, lv, nx⟩⟩ tmps) {v : AV} {u : Value} {K : Shape → List AV → Prop} (hv : Rep E (shsOf bx) v u) (hk : readS bx v K) :
    ∃ s ys, K s ys ∧ SrcOK P E s.size s u ys := by
  unfold readS at hk
  split at hk
  · rename_i s xs m
    obtain ⟨a, c, rfl, h2, h3, h4, h5, h6, _⟩ := rep_sl hv
    refine ⟨s, xs, hk, ?_⟩
    rcases h6 with rfl | ⟨ad, ps, rfl, hp, hl⟩
    · exact src_lies (ps := []) h4 rfl rfl (.inl rfl)
    · exact src_lies h4 rfl hp (.inr ⟨ad, rfl, hl.1, hl.2.1⟩)
  · rename_i id p s off len cap
    obtain ⟨b, t', o, n, o', h1, h2, h3, h4, h5, h6, h7, rfl⟩ := rep_bs hv
    obtain ⟨c, f, cs, ty, fz, _, g2, g3, g4, _, g6, _⟩ := box_at h h1 h2 hk
    obtain ⟨v', o2, k1, k2, k3, k4, kpu, k6⟩ := rd_ok E (shsOf bx) p c cs.toList _ g6 g2
    rw [g3, h3] at k2
    rw [g3, h4] at k3
    simp only [Option.some.injEq] at k2 k3
    subst k2
    split at k1
    · rename_i n' s' xs
      clear kpu
      simp only [AV.shape, Shape.ar.injEq] at k3
      obtain ⟨rfl, rfl⟩ := k3
      refine ⟨s, _, k1, ?_⟩
      obtain ⟨l1, l2, ps, hp, hc⟩ := k6
      have hlen : ((xs.drop off).take len).length = len := by simp; omega
      have e : xs = xs.take off ++ ((xs.drop off).take len ++ (xs.drop off).drop len) := by rw [List.take_append_drop, List.take_append_drop]
      rw [e] at hp
      obtain ⟨p1, q1, rfl, a1, a2⟩ := (PRs_append _ _ _).1 hp
      obtain ⟨p2, q2, rfl, a3, _⟩ := (PRs_append _ _ _).1 a2
      refine src_lies ((l2.drop off).take len) hlen a3 ?_
      by_cases h0 : len = 0
      · left; rw [h0]; simp
      · refine .inr ⟨_, rfl, rfl, fun i u hu => ?_⟩
        have hp1 : p1.flatten.length = off * s.size := by rw [PRs_len _ _ a1, sizes_all (l2.take off), List.length_take, Nat.min_eq_left (by omega)]
        have hu' : ((cs.toList.drop o).take (AV.ar n s xs).shape.size)[off * s.size + i]? = some u := by
          rw [hc, List.flatten_append, List.flatten_append, List.getElem?_append_right (by omega), hp1, Nat.add_sub_cancel_left, List.getElem?_append_left (List.getElem?_eq_some_iff.1 hu).1]
          exact hu
        rw [List.getElem?_take, List.getElem?_drop] at hu'
        split at hu'
        · rw [cell_of g4, h7 (by omega), ← Array.getElem?_toList, Nat.add_assoc, hu']
        · simp at hu'
    · exact k1.elim
  · exact hk.elim

theorem PRs_by8 {w : World} {lim : Nat → Nat} : ∀ (bs : List UInt8), PRs w lim (by8 bs) (bs.map fun b => [.int .u8 b.toNat])
  | [] => rfl
  | b :: bs => ⟨[.int .u8 b.toNat], bs.map (fun b => [.int .u8 b.toNat]), rfl, ⟨rfl, rfl⟩, PRs_by8 bs⟩
theorem allSh_by8 (bs : List UInt8) : allSh .lf (by8 bs) := by
  intro x hx
  simp only [by8, List.mem_map] at hx
  obtain ⟨b, _, rfl⟩ := hx
  exact ⟨rfl, rfl⟩
theorem src_str (E : Env) (b : ByteArray) : SrcOK P E 1 .lf (.string b) (bytesAV b) := by
  have hbl : b.toList.length = b.size := by rw [ByteArray.toList_eq]; simp
  refine ⟨allSh_by8 _, ⟨_, PRs_by8 _, fun k hk w hw => ?_⟩, fun w => ?_, fun _ _ => by simp⟩
  · simp only [Builtin.firstCells, Sem.run_pure]
    congr 1
    apply Array.ext'
    simp only [Array.toList_map, Shape.size, Nat.mul_one]
    have e1 : ((b.toList.map fun b => [Value.int .u8 (b.toNat : Int)]).flatten) = b.toList.map fun b => .int .u8 (b.toNat : Int) := by
      induction b.toList with
      | nil => rfl
      | cons c l ih => simp [ih]
    rw [e1, ← List.map_take]
    congr 1
    rw [ByteArray.toList_eq]
    rw [ByteArray.data_extract]
    simp [List.extract]
  · simp [Builtin.lenOf, bytesAV, by8, hbl]
end
end Go.WL
namespace Go.WL

theorem growBy_le (need : Nat) : ∀ (r c : Nat), c ≤ 2 * need + 768 → Builtin.growBy need r c ≤ 2 * need + 768
  | 0, c, h => h
  | r + 1, c, h => by
    unfold Builtin.growBy
    split
    · exact h
    · exact growBy_le need r _ (by omega)
theorem nextcap_le {need c : Nat} (h : c < need) : Builtin.nextslicecap need c ≤ 2 * need + 768 := by
  unfold Builtin.nextslicecap
  split
  · omega
  · split
    · omega
    · exact growBy_le need 4 c (by omega)

section
variable {P : Program} {D : Tabs} {B : Base}

/-- What 'append' lays: k elements' cells; 'zf': of zeros. -/
inductive Yield (P : Program) (w : World) (tx e : TypeId) (size k : Nat) (yc : List Value) : Value → Prop where
  | src {x : Value} (hk : (∃ e', P.underlying tx = some (.slice e')) ∨ P.underlying tx = some .string) (hl : ∀ w', (Builtin.lenOf x).run P w' = .ok k w') (h0 : (Builtin.firstCells size k x).run P w = .ok yc.toArray w)
      (h1 : (Builtin.firstCells size k x).run P w.drew = .ok yc.toArray w.drew) : Yield P w tx e size k yc x
  | zeros {kk kx : IntKind} {n : Int} {z : Value} {i : TypeInfo} (hk : P.underlying tx = some (.int kk)) (h0 : 0 ≤ n) (h1 : n < 4294967296) (hn : n.toNat = k) (hi : P.info? e = some i) (hz : i.zero = some z) (hb : i.bytes ≤ 4096)
      (hy : (if k * size = 0 then #[] else Builtin.zeroCells z.cells k) = yc.toArray) : Yield P w tx e size k yc (.int kx n)

theorem wrap_small {n : Int} (h0 : 0 ≤ n) (h1 : n < 4294967296) : IntKind.i64.wrap n = n := by
  simp only [IntKind.wrap, IntKind.signed, IntKind.bits]
  have : n % (2 ^ 64 : Int) = n := Int.emod_eq_of_lt h0 (by omega)
  simp only [this]
  rw [if_neg]
  simp; omega

theorem run_app_room {w w' : World} {t tx ty e : TypeId} {i : TypeInfo} (ht : P.underlying t = some (.slice e)) (hi : P.info? e = some i) {base : Option Addr} {n c k : Nat} {x : Value} {yc : List Value} (hy : Yield P w tx e i.size k yc x) (hroom : n + k ≤ c)
    (hst : (base = none ∧ w' = w) ∨ ∃ a, base = some a ∧ (storeCells (a.add (n * i.size)) yc).run P w = .ok () w') :
    (Builtin.append_ #[t, tx] ty #[.slice base n c, x]).run P w = .ok (.slice base (n + k) c) w' := by
  cases hy with
  | src hk hl h0 h1 =>
    rcases hst with ⟨rfl, rfl⟩ | ⟨a, rfl, hst⟩ <;> rcases hk with ⟨e', hk⟩ | hk <;> simp [Builtin.append_, run_underlying' ht, run_underlying' hk, run_sizeOf' hi, hl, hroom, h0]
    · simp [hst]
    · simp [hst]
  | zeros hk h0 h1 hn hi' hz hb hy =>
    rename_i kk kx m z i'
    rw [hi] at hi'
    simp only [Option.some.injEq] at hi'
    subst hi'
    have hw := wrap_small h0 h1
    have c1 : ¬ m < 0 := by omega
    have c2 : ¬ (281474976710656 < m * (i.bytes : Int)) := by
      have : m * (i.bytes : Int) ≤ m * 4096 := Int.mul_le_mul_of_nonneg_left (by omega) h0
      omega
    have hyl : yc = if k * i.size = 0 then [] else (Builtin.zeroCells z.cells k).toList := by
      have := congrArg Array.toList hy
      simp only at this
      rw [← this]
      split <;> rfl
    rcases hst with ⟨rfl, rfl⟩ | ⟨a, rfl, hst⟩
    · simp [Builtin.append_, run_underlying' ht, run_underlying' hk, run_sizeOf' hi, asInt, asIntOf, hw, c1, run_typeInfo' hi, c2, hn, hroom]
      intro _
      simp [run_zeroValue' hi hz]
    · simp [Builtin.append_, run_underlying' ht, run_underlying' hk, run_sizeOf' hi, asInt, asIntOf, hw, c1, run_typeInfo' hi, c2, hn, hroom]
      by_cases h : k * i.size = 0
      · rw [if_pos h] at hyl ⊢
        subst hyl
        simp [hst]
      · rw [if_neg h] at hyl ⊢
        subst hyl
        simp [run_zeroValue' hi hz, hst]

/-- The row that 'append' lays where there is no room. -/
theorem run_app_grow' {w : World} {t tx ty e : TypeId} {i : TypeInfo} {z : Value} (ht : P.underlying t = some (.slice e)) (hi : P.info? e = some i) (hz : i.zero = some z) (hb : i.bytes ≤ 4096) {base : Option Addr} {n c k : Nat} {x : Value} {oc yc : List Value} (hy : Yield P w tx e i.size k yc x)
    (ho : (Builtin.firstCells i.size n (.slice base n c)).run P w.drew = .ok oc.toArray w.drew) (hgrow : c < n + k) (hsm : n + k < 4294967296) :
    ∃ nc : Nat, n + k ≤ nc ∧
      (Builtin.append_ #[t, tx] ty #[.slice base n c, x]).run P w = .ok (.slice (some ⟨w.heap.size, 0, none⟩) (n + k) nc) (w.drew.alloc (.cells ((oc ++ yc).toArray ++ Builtin.zeroCells z.cells (nc - (n + k))) e)) := by
  have hn : ¬ (n + k ≤ c) := by omega
  have h63 : ¬ (9223372036854775807 < ((n : Int) + (k : Int))) := by omega
  have hcap := nextcap_le hgrow
  have h48 : ¬ (281474976710656 < Builtin.nextslicecap (n + k) c * i.bytes) := by
    have : Builtin.nextslicecap (n + k) c * i.bytes ≤ (2 * (n + k) + 768) * 4096 := Nat.mul_le_mul hcap hb
    omega
  have hcut : n + k ≤ (Question.appendCap (n + k) c e).cut (w.tape w.drawn (.appendCap (n + k) c e)) := by simp [Question.cut]
  refine ⟨(Question.appendCap (n + k) c e).cut (w.tape w.drawn (.appendCap (n + k) c e)), hcut, ?_⟩
  cases hy with
  | src hk hl h0 h1 =>
    rcases hk with ⟨e', hk⟩ | hk <;>
      (simp [Builtin.append_, run_underlying' ht, run_underlying' hk, run_sizeOf' hi, run_typeInfo' hi, run_zeroValue' hi hz, hl, hn, h63, h48, Question.forced, h1, ho, newRow]
       congr 2
       apply Array.ext'
       simp [List.append_assoc])
  | zeros hk h0 h1 hn' hi' hz' hb' hy =>
    rename_i kk kx m z' i'
    rw [hi] at hi'
    simp only [Option.some.injEq] at hi'
    subst hi'
    rw [hz] at hz'
    simp only [Option.some.injEq] at hz'
    subst hz'
    have hw := wrap_small h0 h1
    have c1 : ¬ m < 0 := by omega
    have c2 : ¬ (281474976710656 < m * (i.bytes : Int)) := by
      have : m * (i.bytes : Int) ≤ m * 4096 := Int.mul_le_mul_of_nonneg_left (by omega) h0
      omega
    have hyl : yc = if k * i.size = 0 then [] else (Builtin.zeroCells z.cells k).toList := by
      have := congrArg Array.toList hy
      simp only at this
      rw [← this]
      split <;> rfl
    have h63' : ¬ (9223372036854775807 < ((n : Int) + max m 0)) := by omega
    simp [Builtin.append_, run_underlying' ht, run_underlying' hk, run_sizeOf' hi, asInt, asIntOf, hw, c1, run_typeInfo' hi, c2, hn', run_zeroValue' hi hz, hn, h63', h48, Question.forced, ho, newRow]
    by_cases h : k * i.size = 0
    · rw [if_pos h] at hyl
      subst hyl
      simp only [h, if_true]
      rw [List.append_nil]
    · rw [if_neg h] at hyl
      subst hyl
      simp only [h, if_false]
      have e1 : ∀ (r : Array Value), oc.toArray ++ (Builtin.zeroCells z.cells k ++ r) = (oc ++ (Builtin.zeroCells z.cells k).toList).toArray ++ r := by
        intro r
        apply Array.ext'
        simp [List.append_assoc]
      rw [e1]
theorem run_app_grow {w : World} {t tx ty e : TypeId} {i : TypeInfo} {z : Value} (ht : P.underlying t = some (.slice e)) (hi : P.info? e = some i) (hz : i.zero = some z) (hb : i.bytes ≤ 4096) {base : Option Addr} {n c k : Nat} {x : Value} {oc yc : List Value} (hy : Yield P w tx e i.size k yc x)
    (ho : (Builtin.firstCells i.size n (.slice base n c)).run P w.drew = .ok oc.toArray w.drew) (hgrow : c < n + k) (hsm : n + k < 4294967296) :
    ∃ (nc : Nat) (rest : Array Value), n + k ≤ nc ∧ rest.size = (nc - (n + k)) * z.cells.size ∧
      (Builtin.append_ #[t, tx] ty #[.slice base n c, x]).run P w = .ok (.slice (some ⟨w.heap.size, 0, none⟩) (n + k) nc) (w.drew.alloc (.cells ((oc ++ yc).toArray ++ rest) e)) := by
  obtain ⟨nc, h1, h2⟩ := run_app_grow' (ty := ty) ht hi hz hb hy ho hgrow hsm
  exact ⟨nc, _, h1, by simp [Builtin.zeroCells], h2⟩

end
end Go.WL
namespace Go.WL
section
variable {P : Program} {D : Tabs} {B : Base}

theorem fm_inj {α β : Type} {f : α → Option β} {b : β} : ∀ {l : List α} {r r' : α}, (l.filterMap f).Nodup → r ∈ l → r' ∈ l → f r = some b → f r' = some b → r = r'
  | [], _, _, _, hr, _, _, _ => by simp at hr
  | q :: l, r, r', hn, hr, hr', e, e' => by
    rcases List.mem_cons.1 hr with h1 | h1 <;> rcases List.mem_cons.1 hr' with h2 | h2
    · rw [h1, h2]
    · exfalso
      subst h1
      rw [List.filterMap_cons, e] at hn
      exact (List.nodup_cons.1 hn).1 (List.mem_filterMap.2 ⟨r', h2, e'⟩)
    · exfalso
      subst h2
      rw [List.filterMap_cons, e'] at hn
      exact (List.nodup_cons.1 hn).1 (List.mem_filterMap.2 ⟨r, h1, e⟩)
    · refine fm_inj (f := f) (l := l) ?_ h1 h2 e e'
      rw [List.filterMap_cons] at hn
      split at hn
      · exact hn
      · exact (List.nodup_cons.1 hn).2
theorem claims_rem {E : Env} {lv : List Nat} {r b : Nat} (hn : (claims E lv).Nodup) (hr : r ∈ lv) (hb : E.row r = .grow b) : b ∉ claims E (rem lv r) := by
  intro hm
  have hrb : rowBlk E r = some b := by unfold rowBlk; rw [hb]; rfl
  unfold claims at hm hn
  have hb' : b ∈ lv.filterMap (rowBlk E) := List.mem_filterMap.2 ⟨r, hr, hrb⟩
  rcases List.mem_append.1 hm with hm | hm
  · exact (List.nodup_append.1 hn).2.2 b hm b hb' rfl
  · obtain ⟨r', hr', e⟩ := List.mem_filterMap.1 hm
    have h1 := (mem_rem lv r r').1 hr'
    exact h1.2 (fm_inj (List.nodup_append.1 hn).2.1 h1.1 hr e hrb)

/-- The right to lengthen, used. -/
inductive Right (E : Env) (lv : List Nat) : Mark → List Nat → Prop where
  | ex : Right E lv .ex lv
  | own {r : Nat} (h : r ∈ lv) : Right E lv (.own r) (rem lv r)

theorem append_ok {E : Env} {nt : Nat} {tm : List (Nat × AV)} {bx : List (AV × Bool)} {lv lv' : List Nat} {nx : Nat} {tmps : Array Value} (h : Sim D B E ⟨nt, tm, ⟨bx, lv, nx⟩⟩ tmps) {t tx ty e : TypeId} {i : TypeInfo} {z : Value} {sh : Shape} (ht : P.underlying t = some (.slice e)) (hi : P.info? e = some i) (hz : i.zero = some z) (hb : i.bytes ≤ 4096) (hsz : i.size = sh.size) (hzs : z.cells.size = sh.size)
    {xs ys : List AV} {m : Mark} {sv xv : Value} {psy : List (List Value)} (hs : Rep E (shsOf bx) (.sl sh xs m) sv) (hya : allSh sh ys) (hyp : PRs E.w E.lim ys psy) (hy : Yield P E.w tx e sh.size ys.length psy.flatten xv) (hsm : xs.length + ys.length < 4294967296) (hR : Right E lv m lv') :
    ∃ E' r, Sim D B E' ⟨nt, tm, ⟨bx, nx :: lv', nx + 1⟩⟩ tmps ∧ Rep E' (shsOf bx) (.sl sh (xs ++ ys) (.own nx)) r ∧ (Builtin.append_ #[t, tx] ty #[sv, xv]).run P E.w = .ok r E'.w := by
  have hrep := hs
  obtain ⟨a, c, rfl, h2, h3, h4, h5, h6, h7⟩ := rep_sl hs
  have hnx : E.nx = nx := h.nx
  have hsub : lv'.Sublist lv := by cases hR with | ex => exact List.Sublist.refl _ | own _ => exact rem_sub _ _
  have h1 := h.bury hsub
  have hyl : psy.flatten.length = ys.length * sh.size := by rw [PRs_len ys psy hyp, sizes_all hya]
  have hy1 : ∀ u ∈ psy.flatten, u.oneCell' = true := PRs_one ys psy hyp
  have hall : allSh sh (xs ++ ys) := h4.append hya
  -- what the right tells
  have hright : ∃ st : RowSt, st ≠ .dead ∧ rowOK E sh xs.length a c st ∧ ∀ b, st = .grow b → Plain E.w b ∧ b ∉ claims E lv' ∧ (b < B.w.heap.size → B.own b) := by
    cases hR with
    | ex => exact ⟨.exact, by simp, h3 rfl, fun b hb => by simp at hb⟩
    | own hr =>
      rename_i r
      obtain ⟨k1, k2⟩ := h7 r rfl
      obtain ⟨_, g2, g3⟩ := h.m.row r hr
      exact ⟨E.row r, g2, k2, fun b hb => ⟨g3 b hb, claims_rem h.m.nodup hr hb, h.fb.cl b (List.mem_append_right _ (List.mem_filterMap.2 ⟨r, hr, by unfold rowBlk; rw [hb]; rfl⟩))⟩⟩
  obtain ⟨st, hst, hrow, hcl⟩ := hright
  have hnew : ∀ (E1 : Env) (s : RowSt), E1.nx = nx → (E1.claim s).row nx = s := fun E1 s he => by simp [Env.claim, he, upd_at]
  rw [← hsz] at hy
  by_cases hroom : xs.length + ys.length ≤ c
  · by_cases hk : ys.length = 0
    · -- nothing is appended
      have hys : ys = [] := List.eq_nil_of_length_eq_zero hk
      subst hys
      have hpy : psy = [] := hyp
      subst hpy
      have h2' := h1.claim st hst (fun b hb => by rw [claims_bury]; exact hcl b hb)
      refine ⟨(E.bury lv').claim st, .slice a xs.length c, h2', ?_, ?_⟩
      · have t : TrA E ((E.bury lv').claim st) (shsOf bx) (shsOf bx) := by
          refine ⟨⟨fun _ _ _ => rfl, fun _ => Nat.le_refl _⟩, fun _ _ h => h, fun _ _ h => h, fun r hr => ?_⟩
          have := (tra_bury (E := E) (shs := shsOf bx) lv').row r hr
          refine ⟨by simp only [Env.claim]; exact Nat.lt_succ_of_lt this.1, ?_⟩
          have e : ((E.bury lv').claim st).row r = (E.bury lv').row r := by simp only [Env.claim]; exact upd_ne (Nat.ne_of_lt hr)
          rw [e]
          exact this.2
        refine ⟨⟨a, c, by simp, by simpa using h2, fun k => by simp at k, hall, h5, ?_⟩, fun r hr => ?_⟩
        · rw [List.append_nil]; exact h6
        · simp only [Mark.own.injEq] at hr
          subst hr
          refine ⟨by simp [Env.claim, Env.bury, hnx], fun a' n' c' he => ?_⟩
          simp only [List.cons.injEq, Value.slice.injEq, and_true] at he
          obtain ⟨rfl, rfl, rfl⟩ := he
          rw [hnew (E.bury lv') st hnx]
          exact hrow
      · have := run_app_room (ty := ty) ht hi (base := a) (n := xs.length) (w' := E.w) hy (by omega) (by
          cases a with
          | none => exact .inl ⟨rfl, rfl⟩
          | some a => exact .inr ⟨a, rfl, by simp [storeCells]⟩)
        show _ = Result.ok _ E.w
        simpa using this
    · -- room behind the row's end
      have hne : c ≠ xs.length := by omega
      cases st with
      | dead => exact absurd rfl hst
      | exact => exact absurd hrow hne
      | grow b =>
        obtain ⟨o, cs, tyb, fz, rfl, r1, r2, r3⟩ := hrow
        obtain ⟨p1, p2, p3⟩ := hcl b rfl
        have hfz : fzOK cs fz := by
          obtain ⟨cs', ty', fz', q1, q2⟩ := p1
          rw [r2] at q1
          simp only [Option.some.injEq, Obj.cells.injEq] at q1
          obtain ⟨rfl, rfl, rfl⟩ := q1
          exact q2
        have hle : (xs.length + ys.length) * sh.size ≤ c * sh.size := Nat.mul_le_mul_right _ hroom
        rw [Nat.add_mul] at hle
        have hput : o + xs.length * sh.size + psy.flatten.length ≤ cs.size := by rw [hyl]; omega
        have hb1 : (E.bury lv').w.heap[b]? = some (.cells cs tyb fz) := r2
        have hl1 : (E.bury lv').lim b = o + xs.length * sh.size := r1
        have hsame : ∀ j, j < (E.bury lv').lim b → (putL cs (o + xs.length * sh.size) psy.flatten)[j]? = cs[j]? := by
          intro j hj
          rw [hl1] at hj
          rw [putL_get _ _ _ _ hput, if_pos hj]
        have hdead : ∀ r, (E.bury lv').row r ≠ .grow b := by
          intro r hr
          obtain ⟨q1, q2⟩ := bury_row hr
          exact p2 (List.mem_append_right _ (List.mem_filterMap.2 ⟨r, q1, by unfold rowBlk; rw [q2]; rfl⟩))
        have h2' := h1.blk (b := b) (l := o + (xs.length * sh.size + ys.length * sh.size)) (cs' := putL cs (o + xs.length * sh.size) psy.flatten) hb1 (by rw [hl1]; omega) hsame (putL_size _ _ _) (by omega) hdead (by rw [claims_bury]; exact p2) p3
        have hcl' : claims ((E.bury lv').setBlk b (putL cs (o + xs.length * sh.size) psy.flatten) tyb fz (o + (xs.length * sh.size + ys.length * sh.size))) lv' = claims E lv' := (claims_eq (E := E.bury lv') rfl fun r _ => rfl).trans claims_bury
        have hblk : ((E.bury lv').setBlk b (putL cs (o + xs.length * sh.size) psy.flatten) tyb fz (o + (xs.length * sh.size + ys.length * sh.size))).w.heap[b]? = some (.cells (putL cs (o + xs.length * sh.size) psy.flatten) tyb fz) := setBlk_at (lt_of_blk r2)
        have h3' := h2'.claim (.grow b) (by simp) (fun b' hb' => by
          simp only [RowSt.grow.injEq] at hb'
          subst hb'
          exact ⟨⟨_, _, _, hblk, by unfold fzOK at hfz ⊢; rw [putL_size]; exact hfz⟩, by rw [hcl']; exact p2, p3⟩)
        have hext : Ext E.w E.lim ((E.bury lv').setBlk b (putL cs (o + xs.length * sh.size) psy.flatten) tyb fz (o + (xs.length * sh.size + ys.length * sh.size))).w ((E.bury lv').setBlk b (putL cs (o + xs.length * sh.size) psy.flatten) tyb fz (o + (xs.length * sh.size + ys.length * sh.size))).lim := ext_setBlk (E := E.bury lv') hb1 (by rw [hl1]; omega) hsame
        have hlimb : ((E.bury lv').setBlk b (putL cs (o + xs.length * sh.size) psy.flatten) tyb fz (o + (xs.length * sh.size + ys.length * sh.size))).lim b = o + (xs.length * sh.size + ys.length * sh.size) := by simp only [Env.setBlk, upd_at]
        refine ⟨_, .slice (some ⟨b, o, none⟩) (xs.length + ys.length) c, h3', ⟨⟨some ⟨b, o, none⟩, c, by rw [List.length_append], by simpa using hroom, fun k => by simp at k, hall, by simp, ?_⟩, fun r hr => ?_⟩, ?_⟩
        · right
          have hx : ∃ psx, PRs E.w E.lim xs psx ∧ (∀ j u, psx.flatten[j]? = some u → E.w.cell? ⟨b, o + j, none⟩ = some u) := by
            rcases h6 with rfl | ⟨ad, psx, ha, q1, q2⟩
            · exact ⟨[], rfl, fun j u hu => by simp at hu⟩
            · simp only [Option.some.injEq] at ha
              subst ha
              exact ⟨psx, q1, q2.2.1⟩
          obtain ⟨psx, q1, q2⟩ := hx
          have hxl : psx.flatten.length = xs.length * sh.size := by rw [PRs_len xs psx q1, sizes_all h4]
          refine ⟨_, psx ++ psy, rfl, (PRs_append _ _ _).2 ⟨psx, psy, rfl, PRs_ext hext _ _ q1, PRs_ext hext _ _ hyp⟩, rfl, fun j u hu => ?_, fun _ => ?_⟩
          · show World.cell? _ ⟨b, o + j, none⟩ = _
            rw [List.flatten_append] at hu
            have hw : ((((E.bury lv').setBlk b (putL cs (o + xs.length * sh.size) psy.flatten) tyb fz (o + (xs.length * sh.size + ys.length * sh.size))).claim (.grow b)).w).heap[b]? = some (.cells (putL cs (o + xs.length * sh.size) psy.flatten) tyb fz) := hblk
            rw [cell_of hw, putL_get _ _ _ _ hput]
            by_cases hj : j < psx.flatten.length
            · rw [List.getElem?_append_left hj] at hu
              rw [if_pos (by omega)]
              have := q2 j u hu
              rwa [cell_of r2] at this
            · rw [List.getElem?_append_right (by omega)] at hu
              have hj2 := (List.getElem?_eq_some_iff.1 hu).1
              rw [if_neg (by omega), if_pos (by omega), ← hu]
              congr 1
              omega
          · show o + (psx ++ psy).flatten.length ≤ ((E.bury lv').setBlk b (putL cs (o + xs.length * sh.size) psy.flatten) tyb fz (o + (xs.length * sh.size + ys.length * sh.size))).lim b
            rw [hlimb, List.flatten_append, List.length_append, hxl, hyl]
            omega
        · simp only [Mark.own.injEq] at hr
          subst hr
          refine ⟨by simp [Env.claim, Env.bury, Env.setBlk, hnx], fun a' n' c' he => ?_⟩
          simp only [List.cons.injEq, Value.slice.injEq, and_true] at he
          obtain ⟨rfl, rfl, rfl⟩ := he
          have : (((E.bury lv').setBlk b (putL cs (o + xs.length * sh.size) psy.flatten) tyb fz (o + (xs.length * sh.size + ys.length * sh.size))).claim (.grow b)).row nx = .grow b := hnew _ _ hnx
          rw [this]
          refine ⟨o, _, _, _, rfl, ?_, hblk, by rw [putL_size]; exact r3⟩
          show ((E.bury lv').setBlk b (putL cs (o + xs.length * sh.size) psy.flatten) tyb fz (o + (xs.length * sh.size + ys.length * sh.size))).lim b = _
          rw [hlimb, Nat.add_mul]
        · have hstore := run_storeCells_blk (P := P) (a := (⟨b, o, none⟩ : Addr).add (xs.length * i.size)) (b := b) (by rw [add_eq rfl]) (by rw [add_eq rfl]) psy.flatten 0 cs E.w r2 hfz (by rw [add_eq rfl, hsz]; simpa using hput) hy1
          have := run_app_room (ty := ty) ht hi (base := some ⟨b, o, none⟩) (n := xs.length) hy (by omega) (.inr ⟨_, rfl, hstore⟩)
          rw [this]
          simp only [add_eq (a := ⟨b, o, none⟩) rfl, hsz, Nat.add_zero]
          rfl
  · -- a new row
    have hsrc : ∃ psx, PRs E.w E.lim xs psx ∧ (Builtin.firstCells i.size xs.length (.slice a xs.length c)).run P E.w.drew = .ok psx.flatten.toArray E.w.drew := by
      have hso : SrcOK P E sh.size sh (.slice a xs.length c) xs := by
        rcases h6 with rfl | ⟨ad, psx, rfl, q1, q2⟩
        · exact src_lies (ps := []) h4 rfl rfl (.inl rfl)
        · exact src_lies h4 rfl q1 (.inr ⟨ad, rfl, q2.1, q2.2.1⟩)
      obtain ⟨psx, q1, q2⟩ := hso.cells
      have hxl : psx.flatten.length = xs.length * sh.size := by rw [PRs_len xs psx q1, sizes_all h4]
      refine ⟨psx, q1, ?_⟩
      have := q2 xs.length (Nat.le_refl _) E.w.drew (fun _ _ _ h => h)
      rw [hsz, this, List.take_of_length_le (by omega)]
    obtain ⟨psx, q1, q2⟩ := hsrc
    have hxl : psx.flatten.length = xs.length * sh.size := by rw [PRs_len xs psx q1, sizes_all h4]
    obtain ⟨nc, rest, g1, g2, g3⟩ := run_app_grow (ty := ty) ht hi hz hb (base := a) hy q2 (by omega) hsm
    have hd := h1.drew
    have hcells : ((psx.flatten ++ psy.flatten).toArray ++ rest).size = (xs.length + ys.length) * sh.size + (nc - (xs.length + ys.length)) * sh.size := by
      rw [Array.size_append, g2, hzs, List.size_toArray, List.length_append, hxl, hyl, Nat.add_mul]
    have h3' := hd.alloc ((psx.flatten ++ psy.flatten).toArray ++ rest) e (0, 0) ((xs.length + ys.length) * sh.size) (by omega)
    have hN : ((E.bury lv').drew.alloc ((psx.flatten ++ psy.flatten).toArray ++ rest) e (0, 0) ((xs.length + ys.length) * sh.size)).w.heap[E.w.heap.size]? = some (.cells ((psx.flatten ++ psy.flatten).toArray ++ rest) e (0, 0)) := Env.alloc_new (E := (E.bury lv').drew)
    have hlimN : ((E.bury lv').drew.alloc ((psx.flatten ++ psy.flatten).toArray ++ rest) e (0, 0) ((xs.length + ys.length) * sh.size)).lim E.w.heap.size = (xs.length + ys.length) * sh.size := Env.alloc_limN (E := (E.bury lv').drew)
    have h4' := h3'.claim (.grow E.w.heap.size) (by simp) (fun b hb' => by
      simp only [RowSt.grow.injEq] at hb'
      subst hb'
      refine ⟨⟨_, _, _, hN, .inr (Nat.le_refl _)⟩, ?_, fun hlt => ?_⟩
      · intro hm
        have : E.w.heap.size ∈ claims E lv' := by rw [← claims_bury]; exact hm
        have hm' : E.w.heap.size ∈ claims E lv := ((List.Sublist.refl _).append (hsub.filterMap _)).subset this
        have := (h.m.lt hm').lt
        omega
      · have := h.fb.size; omega)
    have hext : Ext E.w E.lim ((E.bury lv').drew.alloc ((psx.flatten ++ psy.flatten).toArray ++ rest) e (0, 0) ((xs.length + ys.length) * sh.size)).w ((E.bury lv').drew.alloc ((psx.flatten ++ psy.flatten).toArray ++ rest) e (0, 0) ((xs.length + ys.length) * sh.size)).lim := (⟨fun _ _ _ => rfl, fun _ => Nat.le_refl _⟩ : Ext E.w E.lim (E.bury lv').drew.w (E.bury lv').drew.lim).trans (lim_alloc (E := (E.bury lv').drew) hd.m _ e (0, 0) _)
    refine ⟨_, .slice (some ⟨E.w.heap.size, 0, none⟩) (xs.length + ys.length) nc, h4', ⟨⟨some ⟨E.w.heap.size, 0, none⟩, nc, by rw [List.length_append], by simpa using g1, fun k => by simp at k, hall, by simp, ?_⟩, fun r hr => ?_⟩, ?_⟩
    · right
      refine ⟨_, psx ++ psy, rfl, (PRs_append _ _ _).2 ⟨psx, psy, rfl, PRs_ext hext _ _ q1, PRs_ext hext _ _ hyp⟩, rfl, fun j u hu => ?_, fun _ => ?_⟩
      · show World.cell? _ ⟨E.w.heap.size, 0 + j, none⟩ = _
        have hN' : ((((E.bury lv').drew.alloc ((psx.flatten ++ psy.flatten).toArray ++ rest) e (0, 0) ((xs.length + ys.length) * sh.size)).claim (.grow E.w.heap.size)).w).heap[E.w.heap.size]? = some (.cells ((psx.flatten ++ psy.flatten).toArray ++ rest) e (0, 0)) := hN
        rw [cell_of hN', Nat.zero_add, ← Array.getElem?_toList, ← hu, Array.toList_append, List.flatten_append]
        rw [List.getElem?_append_left]
        rw [List.flatten_append] at hu
        exact (List.getElem?_eq_some_iff.1 hu).1
      · show 0 + (psx ++ psy).flatten.length ≤ ((E.bury lv').drew.alloc ((psx.flatten ++ psy.flatten).toArray ++ rest) e (0, 0) ((xs.length + ys.length) * sh.size)).lim E.w.heap.size
        rw [hlimN, List.flatten_append, List.length_append, hxl, hyl, Nat.add_mul]
        omega
    · simp only [Mark.own.injEq] at hr
      subst hr
      refine ⟨by simp [Env.claim, Env.bury, Env.drew, Env.alloc, hnx], fun a' n' c' he => ?_⟩
      simp only [List.cons.injEq, Value.slice.injEq, and_true] at he
      obtain ⟨rfl, rfl, rfl⟩ := he
      have : ((((E.bury lv').drew.alloc ((psx.flatten ++ psy.flatten).toArray ++ rest) e (0, 0) ((xs.length + ys.length) * sh.size))).claim (.grow E.w.heap.size)).row nx = .grow E.w.heap.size := by
        have e1 : ((E.bury lv').drew.alloc ((psx.flatten ++ psy.flatten).toArray ++ rest) e (0, 0) ((xs.length + ys.length) * sh.size)).nx = nx := hnx
        simp [Env.claim, e1, upd_at]
      rw [this]
      refine ⟨0, _, _, _, rfl, ?_, hN, ?_⟩
      · show ((E.bury lv').drew.alloc ((psx.flatten ++ psy.flatten).toArray ++ rest) e (0, 0) ((xs.length + ys.length) * sh.size)).lim E.w.heap.size = _
        rw [hlimN]; omega
      · rw [hcells, ← Nat.add_mul, Nat.zero_add]
        exact Nat.mul_le_mul_right _ (by omega)
    · rw [g3]
      rfl
end
end Go.WL
namespace Go.WL

/-- What an operation that yields a value comes to. -/
def OpRes (P : Program) (D : Tabs) (B : Base) (E : Env) (nt : Nat) (tm : List (Nat × AV)) (tmps : Array Value) (d : Option Nat) (K : AS → Prop) (s : Sem Value) : Prop :=
  ∃ E' m' v r, Sim D B E' ⟨nt, tm, m'⟩ tmps ∧ Rep E' (shsOf m'.bx) v r ∧ s.run P E.w = .ok r E'.w ∧ AS.put ⟨nt, tm, m'⟩ d v K

section
variable {P : Program} {D : Tabs} {B : Base}

theorem fin_res {o : Oper} {a : Act} {E : Env} {nt : Nat} {tm : List (Nat × AV)} {K : AS → Prop} {next : Act → World → Prop} {Q : Exit → Act → World → Prop} {s : Sem Value}
    (he : execOp a.eval o = (do pure (Next.value (← s)))) (h : OpRes P D B E nt tm a.tmps o.dst K s) (hn : NextOK D B a next K) : o.wp P a E.w next Q := by
  obtain ⟨E', m', v, r, h1, h2, h3, h4⟩ := h
  refine fin_val (E' := E') ?_ h1 h2 h4 hn
  rw [he]
  simp [h3]

theorem memb_of : ∀ (l : List Nat) (r : Nat), memb l r = true → r ∈ l
  | [], r, h => by simp [memb] at h
  | x :: l, r, h => by
    unfold memb at h
    split at h
    · rename_i e; rw [Nat.eq_of_beq_eq_true e]; simp
    · exact List.mem_cons_of_mem _ (memb_of l r h)

theorem appFits_ok {E : Env} {nt : Nat} {tm : List (Nat × AV)} {bx : List (AV × Bool)} {lv : List Nat} {nx : Nat} {tmps : Array Value} {d : Option Nat} {K : AS → Prop} (h : Sim D B E ⟨nt, tm, ⟨bx, lv, nx⟩⟩ tmps) {t tx ty e : TypeId} {i : TypeInfo} {z : Value} {sh : Shape} (ht : P.underlying t = some (.slice e)) (hi : P.info? e = some i) (hz : i.zero = some z) (hb : i.bytes ≤ 4096) (hsz : i.size = sh.size) (hzs : z.cells.size = sh.size)
    {xs ys : List AV} {m : Mark} {sv xv : Value} {psy : List (List Value)} (hs : Rep E (shsOf bx) (.sl sh xs m) sv) (hya : allSh sh ys) (hyp : PRs E.w E.lim ys psy) (hy : Yield P E.w tx e sh.size ys.length psy.flatten xv) (hk : appFits nt tm bx lv nx d sh xs ys m K) :
    OpRes P D B E nt tm tmps d K (Builtin.append_ #[t, tx] ty #[sv, xv]) := by
  have go : ∀ lv', Right E lv m lv' → appGo nt tm bx lv' nx d sh xs ys K → OpRes P D B E nt tm tmps d K (Builtin.append_ #[t, tx] ty #[sv, xv]) := by
    intro lv' hR hg
    obtain ⟨g1, g2⟩ := hg
    obtain ⟨E', r, k1, k2, k3⟩ := append_ok (ty := ty) h ht hi hz hb hsz hzs hs hya hyp hy g1 hR
    exact ⟨E', ⟨bx, nx :: lv', nx + 1⟩, _, r, k1, k2, k3, litK_of (K := fun nx' => AS.put ⟨nt, tm, ⟨bx, nx :: lv', nx'⟩⟩ d (.sl sh (xs ++ ys) (.own nx)) K) g2⟩
  unfold appFits at hk
  split at hk
  · exact hk.elim
  · exact go lv .ex hk
  · rename_i r
    cases hm : memb lv r with
    | false => simp [hm] at hk
    | true =>
      simp only [hm] at hk
      exact go _ (.own (memb_of _ _ hm)) hk

theorem zero_cells (hT : TabOK P D) {E : Env} {shs : List Shape} {e : Nat} {k : TK} {sh : Shape} {by_ : Nat} {z : AV} (he : lookT D.ty e = some ⟨k, sh, by_, z⟩) {i : TypeInfo} (hi : P.info? e = some i) {zv : Value} (hz : i.zero = some zv) : IR E shs z zv.cells.toList ∧ z.shape = sh ∧ z.pure = true ∧ zv.cells.size = sh.size := by
  obtain ⟨d, i', z', _, h2, _, _, _, h6, h7, h8, h9⟩ := (hT e _ he).fact
  rw [hi] at h2
  simp only [Option.some.injEq] at h2
  subst h2
  rw [hz] at h6
  simp only [Option.some.injEq] at h6
  subst h6
  have hr := rep0_cells (h9 E shs)
  have hl := IR_len z _ hr
  simp only at h7 h8 hr
  exact ⟨hr, h7, h8, by rw [← h7, ← hl]; simp⟩

theorem zeroCells_flat {z : Array Value} (n : Nat) : (Builtin.zeroCells z n).toList = (List.replicate n z.toList).flatten := by
  unfold Builtin.zeroCells
  exact flat_rep

mutual
theorem eqb_refl : ∀ s : Shape, Shape.eqb s s = true
  | .lf => rfl
  | .nd l => by simp only [Shape.eqb]; exact eqbs_refl l
  | .ar n s => by simp only [Shape.eqb, Bool.and_eq_true]; exact ⟨Nat.beq_refl n, eqb_refl s⟩
theorem eqbs_refl : ∀ l : List Shape, Shape.eqbs l l = true
  | [] => rfl
  | s :: l => by simp only [Shape.eqbs, Bool.and_eq_true]; exact ⟨eqb_refl s, eqbs_refl l⟩
end
theorem arK_wr : ∀ (c : AV) (p : List Nat) (g : List AV → List AV) (K : AV → Prop), arK c p g K → ∃ n s xs, rdK c p (fun a => a = .ar n s xs) ∧ wrK c p (.ar n s (g xs)) K
  | .ar n s xs, [], g, K, h => ⟨n, s, xs, rfl, by
      show match Shape.eqb (AV.shape (.ar n s xs)) (AV.shape (.ar n s (g xs))) with | true => K (.ar n s (g xs)) | false => False
      rw [show Shape.eqb (AV.shape (.ar n s xs)) (AV.shape (.ar n s (g xs))) = true from eqb_refl (.ar n s)]
      exact h⟩
  | .st xs, i :: p, g, K, h => by
    simp only [arK] at h
    cases hx : xs[i]? with
    | none => simp [hx] at h
    | some x =>
      simp only [hx] at h
      obtain ⟨n, s, ys, h1, h2⟩ := arK_wr x p g _ h
      exact ⟨n, s, ys, by simp only [rdK, hx]; exact h1, by simp only [wrK, hx]; exact h2⟩
  | .sc _, _, _, _, h => by simp [arK] at h
  | .st _, [], _, _, h => by simp [arK] at h
  | .ar _ _ _, _ :: _, _, _, h => by simp [arK] at h
  | .tup _, _, _, _, h => by simp [arK] at h
  | .sl _ _ _, _, _, _, h => by simp [arK] at h
  | .rp _, _, _, _, h => by simp [arK] at h
  | .pt _ _, _, _, _, h => by simp [arK] at h
  | .bs _ _ _ _ _ _, _, _, _, h => by simp [arK] at h
  | .fn _ _, _, _, _, h => by simp [arK] at h

/-- Elements laid into a box's array, as the cells see it. -/
theorem lay_ok {E : Env} {nt : Nat} {tm : List (Nat × AV)} {bx : List (AV × Bool)} {lv : List Nat} {nx : Nat} {tmps : Array Value} (h : Sim D B E ⟨nt, tm, ⟨bx, lv, nx⟩⟩ tmps) {id b o n : Nat} {p : List Nat} {t' s : Shape} {ys : List AV} {psy : List (List Value)} {K : List (AV × Bool) → Prop} {at_ : Nat}
    (h1 : E.bx[id]? = some b) (h2 : (shsOf bx)[id]? = some t') (h3 : offS t' p = some o) (h4 : shAt t' p = some (.ar n s)) (hall : allSh s ys) (y1 : PRs E.w E.lim ys psy) (hat : at_ + ys.length ≤ n) (hk : layK bx id p at_ ys K) :
    ∃ cs tyb fz E' bx', K bx' ∧ Sim D B E' ⟨nt, tm, ⟨bx', lv, nx⟩⟩ tmps ∧ E.w.heap[b]? = some (.cells cs tyb fz) ∧ fzOK cs fz ∧ E'.w = setBlk E.w b (.cells (putL cs (o + at_ * s.size) psy.flatten) tyb fz) ∧ o + at_ * s.size + psy.flatten.length ≤ cs.size ∧ E'.bx = E.bx ∧ shsOf bx' = shsOf bx := by
  unfold layK at hk
  obtain ⟨c, f, cs, tyb, fz, g1, g2, g3, g4, g5, g6, _, g8⟩ := box_at h h1 h2 hk
  cases f with
  | true => exact g2.elim
  | false =>
    simp only at g2
    obtain ⟨n', s', xs, q1, q2⟩ := arK_wr c p _ _ g2
    obtain ⟨v', o2, k1, k2, k3, k4, kpu, k6⟩ := rd_ok E (shsOf bx) p c cs.toList _ g6 q1
    clear kpu
    subst k1
    rw [g3, h3] at k2
    rw [g3, h4] at k3
    simp only [Option.some.injEq] at k2 k3
    subst k2
    simp only [AV.shape, Shape.ar.injEq] at k3
    obtain ⟨rfl, rfl⟩ := k3
    obtain ⟨l1, l2, ps, hp, hc⟩ := k6
    have hyl : psy.flatten.length = ys.length * s.size := by rw [PRs_len _ _ y1, sizes_all hall]
    have e : xs = xs.take at_ ++ xs.drop at_ := by simp
    rw [e] at hp
    obtain ⟨p1, q1', rfl, a1, a2⟩ := (PRs_append _ _ _).1 hp
    have e' : xs.drop at_ = (xs.drop at_).take ys.length ++ xs.drop (at_ + ys.length) := by rw [← List.drop_drop, List.take_append_drop]
    rw [e'] at a2
    obtain ⟨p2, p3, rfl, a3, a4⟩ := (PRs_append _ _ _).1 a2
    have lp1 : p1.flatten.length = at_ * s.size := by rw [PRs_len _ _ a1, sizes_all (l2.take at_), List.length_take, Nat.min_eq_left (by omega)]
    have lp2 : p2.flatten.length = ys.length * s.size := by rw [PRs_len _ _ a3, sizes_all ((l2.drop at_).take _), List.length_take, List.length_drop, Nat.min_eq_left (by omega)]
    have hall' : allSh s (xs.take at_ ++ ys ++ xs.drop (at_ + ys.length)) := ((l2.take at_).append hall).append (l2.drop _)
    have hlen' : (xs.take at_ ++ ys ++ xs.drop (at_ + ys.length)).length = n := by
      simp only [List.length_append, List.length_take, List.length_drop]
      omega
    have hnew : IR E (shsOf bx) (.ar n s (xs.take at_ ++ ys ++ xs.drop (at_ + ys.length))) (p1 ++ psy ++ p3).flatten :=
      ⟨hlen', hall', _, (PRs_append _ _ _).2 ⟨_, _, rfl, (PRs_append _ _ _).2 ⟨_, _, rfl, a1, y1⟩, a4⟩, rfl⟩
    obtain ⟨c', E', w1, w2, w3, w4, w5, w6⟩ := boxput_ok2 h g1 h1 g3 h3 g4 g6 (g8 rfl) hnew q2
    refine ⟨cs, tyb, fz, E', bx.set id (c', false), forceB_of _ _ w1, w2, g4, g5, ?_, ?_, w5, shsOf_set g1 w6⟩
    · have hcs : o + (AV.ar n s xs).shape.size ≤ cs.size := by
        have := IR_len c _ g6
        simp only [Array.length_toList] at this
        omega
      have hshn : (AV.ar n s xs).shape.size = n * s.size := rfl
      have hoffs : at_ * s.size + ys.length * s.size ≤ n * s.size := by rw [← Nat.add_mul]; exact Nat.mul_le_mul_right _ (by omega)
      have hold : (cs.toList.drop o).take (AV.ar n s xs).shape.size = p1.flatten ++ (p2.flatten ++ p3.flatten) := by rw [hc, List.flatten_append, List.flatten_append]
      rw [hshn] at hcs
      rw [w3]
      congr 2
      have hlp3 : p1.flatten.length + (p2.flatten.length + p3.flatten.length) = n * s.size := by
        have := congrArg List.length hold
        rw [List.length_take, List.length_drop, hshn] at this
        simp only [List.length_append, Array.length_toList] at this
        omega
      have hfl : (p1 ++ psy ++ p3).flatten = p1.flatten ++ (psy.flatten ++ p3.flatten) := by simp
      have hA : o + (p1 ++ psy ++ p3).flatten.length ≤ cs.size := w4
      have hB : o + at_ * s.size + psy.flatten.length ≤ cs.size := by omega
      apply Array.ext'
      rw [putL_list hA, putL_list hB]
      have hsplit : cs.toList = cs.toList.take o ++ (p1.flatten ++ (p2.flatten ++ p3.flatten)) ++ cs.toList.drop (o + n * s.size) := by
        rw [← hold, hshn, ← List.drop_drop, List.append_assoc, List.take_append_drop, List.take_append_drop]
      have hto : (cs.toList.take o).length = o := by rw [List.length_take, Array.length_toList]; omega
      have hlen1 : (p1 ++ psy ++ p3).flatten.length = n * s.size := by rw [hfl]; simp only [List.length_append]; omega
      rw [hlen1, hfl]
      have r1 : cs.toList.take (o + at_ * s.size) = cs.toList.take o ++ p1.flatten := by
        have e3 : cs.toList = (cs.toList.take o ++ p1.flatten) ++ ((p2.flatten ++ p3.flatten) ++ cs.toList.drop (o + n * s.size)) := by
          conv => lhs; rw [hsplit]
          simp
        conv => lhs; rw [e3]
        exact List.take_left' (by rw [List.length_append, hto, lp1])
      have r2 : cs.toList.drop (o + at_ * s.size + psy.flatten.length) = p3.flatten ++ cs.toList.drop (o + n * s.size) := by
        conv => lhs; rw [hsplit]
        have hpre : (cs.toList.take o ++ (p1.flatten ++ p2.flatten)).length = o + at_ * s.size + psy.flatten.length := by
          simp only [List.length_append, hto]; omega
        rw [show cs.toList.take o ++ (p1.flatten ++ (p2.flatten ++ p3.flatten)) ++ cs.toList.drop (o + n * s.size) = (cs.toList.take o ++ (p1.flatten ++ p2.flatten)) ++ (p3.flatten ++ cs.toList.drop (o + n * s.size)) by simp]
        rw [List.drop_append, List.drop_of_length_le (by omega), hpre, Nat.sub_self, List.drop_zero, List.nil_append]
      rw [r1, r2]
      simp
    · have hcs : o + (AV.ar n s xs).shape.size ≤ cs.size := by
        have := IR_len c _ g6
        simp only [Array.length_toList] at this
        omega
      have hshn : (AV.ar n s xs).shape.size = n * s.size := rfl
      have hoffs : at_ * s.size + ys.length * s.size ≤ n * s.size := by rw [← Nat.add_mul]; exact Nat.mul_le_mul_right _ (by omega)
      omega

theorem srcK_ok (hT : TabOK P D) {E : Env} {nt : Nat} {tm : List (Nat × AV)} {bx : List (AV × Bool)} {lv : List Nat} {nx : Nat} {tmps : Array Value} (h : Sim D B E ⟨nt, tm, ⟨bx, lv, nx⟩⟩ tmps) {t2 e : Nat} {sh : Shape} {x : AV} {xv : Value} {K : List AV → Prop} {kd : TK} {by_ : Nat} {za : AV} {i : TypeInfo} {zv : Value}
    (e6 : lookT D.ty e = some ⟨kd, sh, by_, za⟩) (e2 : P.info? e = some i) (e5 : i.zero = some zv) (hb' : i.bytes ≤ 4096) (hx : Rep E (shsOf bx) x xv) (hk : srcK D bx t2 e sh x K) :
    ∃ ys psy, K ys ∧ allSh sh ys ∧ PRs E.w E.lim ys psy ∧ Yield P E.w t2 e sh.size ys.length psy.flatten xv := by
  obtain ⟨hz1, hz2, hz3, hz4⟩ := zero_cells hT (E := E) (shs := shsOf bx) e6 e2 e5
  unfold srcK at hk
  split at hk
  · rename_i ht2
    obtain ⟨_, _, _, q1, _, _, _, q4, _⟩ := (hT t2 _ ht2).fact
    obtain ⟨_, rfl⟩ := q4
    split at hk
    · rename_i b
      obtain ⟨rfl, _⟩ := rep_sc.1 hx
      cases hsh : Shape.eqb .lf sh with
      | false => simp [hsh] at hk
      | true =>
        simp only [hsh] at hk
        obtain rfl := eqb_of _ _ hsh
        have hsrc := src_str (P := P) E b
        obtain ⟨ps, p1, p2⟩ := hsrc.cells
        have hl : ps.flatten.length = (bytesAV b).length * 1 := by rw [PRs_len _ _ p1, sizes_all hsrc.all]; rfl
        have hc := fun w hw => p2 (bytesAV b).length (Nat.le_refl _) w hw
        refine ⟨bytesAV b, ps, hk, hsrc.all, p1, .src (.inr q1) hsrc.len ?_ ?_⟩
        · have := hc E.w (fun _ _ _ h => h)
          rwa [List.take_of_length_le (by rw [hl]; exact Nat.le_refl _)] at this
        · have := hc E.w.drew (fun _ _ _ h => h)
          rwa [List.take_of_length_le (by rw [hl]; exact Nat.le_refl _)] at this
    · exact hk.elim
  · rename_i e2' _ _ _ ht2
    obtain ⟨_, _, _, q1, _, _, _, q4, _⟩ := (hT t2 _ ht2).fact
    obtain ⟨_, rfl⟩ := q4
    obtain ⟨s2, ys, hk2, hsrc⟩ := readS_ok (P := P) h hx hk
    clear hk
    cases hsh : Shape.eqb s2 sh with
    | false => simp [hsh] at hk2
    | true =>
      simp only [hsh] at hk2
      have hk := hk2
      clear hk2
      obtain rfl := eqb_of _ _ hsh
      obtain ⟨ps, p1, p2⟩ := hsrc.cells
      have hl : ps.flatten.length = ys.length * s2.size := by rw [PRs_len _ _ p1, sizes_all hsrc.all]
      have hc := fun w hw => p2 ys.length (Nat.le_refl _) w hw
      refine ⟨ys, ps, hk, hsrc.all, p1, .src (.inl ⟨_, q1⟩) hsrc.len ?_ ?_⟩
      · have := hc E.w (fun _ _ _ h => h)
        rwa [List.take_of_length_le (by rw [hl]; exact Nat.le_refl _)] at this
      · have := hc E.w.drew (fun _ _ _ h => h)
        rwa [List.take_of_length_le (by rw [hl]; exact Nat.le_refl _)] at this
  · rename_i kk _ _ _ ht2
    obtain ⟨_, _, _, q1, _, _, _, q4, _⟩ := (hT t2 _ ht2).fact
    obtain ⟨_, rfl⟩ := q4
    split at hk
    · rename_i kx n
      obtain ⟨rfl, _⟩ := rep_sc.1 hx
      rw [e6] at hk
      simp only at hk
      obtain ⟨h0, h1, hk⟩ := hk
      have hall : allSh sh (List.replicate n.toNat za) := fun y hy => by rw [(List.mem_replicate.1 hy).2]; exact ⟨hz2, hz3⟩
      have hps := (IRs_pure _ _ (pures_all hall)).1 (IRs_replicate hz1 n.toNat)
      refine ⟨_, _, hk, hall, hps, ?_⟩
      rw [List.length_replicate]
      refine .zeros q1 h0 h1 rfl e2 e5 hb' ?_
      apply Array.ext'
      have hfl := zeroCells_flat (z := zv.cells) n.toNat
      by_cases h00 : n.toNat * sh.size = 0
      · rw [if_pos h00]
        have : (List.replicate n.toNat zv.cells.toList).flatten.length = n.toNat * sh.size := by
          rw [PRs_len _ _ hps, sizes_all hall, List.length_replicate]
        rw [h00] at this
        rw [List.eq_nil_of_length_eq_zero this]
      · rw [if_neg h00, hfl]
    · exact hk.elim
  · exact hk.elim

/-- An append in place, into a box. -/
theorem appIn_ok {E : Env} {nt : Nat} {tm : List (Nat × AV)} {bx : List (AV × Bool)} {lv : List Nat} {nx : Nat} {tmps : Array Value} {d : Option Nat} {K : AS → Prop} (h : Sim D B E ⟨nt, tm, ⟨bx, lv, nx⟩⟩ tmps) {t tx ty e : TypeId} {i : TypeInfo} (ht : P.underlying t = some (.slice e)) (hi : P.info? e = some i) {s : Shape} (hsz : i.size = s.size)
    {id : Nat} {p : List Nat} {off len cap : Nat} {ys : List AV} {sv xv : Value} {psy : List (List Value)} (hs : Rep E (shsOf bx) (.bs id p s off len cap) sv) (hya : allSh s ys) (hyp : PRs E.w E.lim ys psy) (hy : Yield P E.w tx e s.size ys.length psy.flatten xv) (hroom : len + ys.length ≤ cap)
    (hk : layK bx id p (off + len) ys fun bx' => AS.put ⟨nt, tm, ⟨bx', lv, nx⟩⟩ d (.bs id p s off (len + ys.length) cap) K) :
    OpRes P D B E nt tm tmps d K (Builtin.append_ #[t, tx] ty #[sv, xv]) := by
  obtain ⟨b, t', o, n, o', h1, h2, h3, h4, h5, h6, h7, rfl⟩ := rep_bs hs
  obtain ⟨cs, tyb, fz, E', bx', k1, k2, k3, k4, k5, k6, k7, k8⟩ := lay_ok h h1 h2 h3 h4 hya hyp (by omega) hk
  refine ⟨E', _, _, .slice (some ⟨b, o', none⟩) (len + ys.length) cap, k2, ?_, ?_, k1⟩
  · show IR E' (shsOf bx') (.bs id p s off (len + ys.length) cap) _
    exact ⟨b, t', o, n, o', by rw [k7]; exact h1, by rw [k8]; exact h2, h3, h4, h5, hroom, h7, rfl⟩
  · rw [← hsz] at hy
    have hyl : psy.flatten.length = ys.length * s.size := by rw [PRs_len _ _ hyp, sizes_all hya]
    by_cases h0 : psy.flatten = []
    · have hE : E'.w = E.w := by
        rw [k5, h0]
        simp only [putL]
        rw [setBlk_self k3]
      have := run_app_room (ty := ty) (w' := E.w) ht hi hy (base := some ⟨b, o', none⟩) (n := len) hroom (.inr ⟨_, rfl, by rw [h0]; simp [storeCells]⟩)
      rw [this, hE]
    · have hlc : 0 < cap := by
        rcases Nat.eq_zero_or_pos cap with hz | hz
        · exfalso; apply h0
          apply List.eq_nil_of_length_eq_zero
          rw [hyl, show ys.length = 0 by omega, Nat.zero_mul]
        · exact hz
      have ho' := h7 (by omega)
      have hstore := run_storeCells_blk (P := P) (a := (⟨b, o', none⟩ : Addr).add (len * i.size)) (b := b) (by rw [add_eq rfl]) (by rw [add_eq rfl]) psy.flatten 0 cs E.w k3 k4 (by rw [add_eq rfl]; simp only [Nat.add_zero, ho', hsz]; rw [Nat.add_mul] at k6; omega) (PRs_one _ _ hyp)
      have := run_app_room (ty := ty) ht hi (base := some ⟨b, o', none⟩) (n := len) hy hroom (.inr ⟨_, rfl, hstore⟩)
      rw [this, k5]
      congr 4
      rw [add_eq rfl]
      simp only [ho', hsz, Nat.add_mul]
      omega

theorem wAppend_ok (hT : TabOK P D) {E : Env} {σ : AS} {a : Act} {d : Option Nat} {K : AS → Prop} (h : Sim D B E σ a.tmps) {t t2 ty : Nat} {s x : AV} {sv xv : Value} (hs : Rep E (shsOf σ.m.bx) s sv) (hx : Rep E (shsOf σ.m.bx) x xv) (hk : wAppend D σ d t t2 s x K) :
    OpRes P D B E σ.nt σ.tm a.tmps d K (Builtin.append_ #[t, t2] ty #[sv, xv]) := by
  obtain ⟨nt, tm, bx, lv, nx⟩ := σ
  simp only [wAppend] at hk
  obtain ⟨e, sh, by_, i, zv, hk, e1, e2, e3, e4, e5, kd, za, e6⟩ := slc_fact hT hk
  cases hb : Nat.ble by_ 4096 with
  | false => simp [hb] at hk
  | true =>
    simp only [hb] at hk
    have hb' : i.bytes ≤ 4096 := by rw [e4]; exact Nat.le_of_ble_eq_true hb
    obtain ⟨hz1, hz2, hz3, hz4⟩ := zero_cells hT (E := E) (shs := shsOf bx) e6 e2 e5
    cases s with
    | sl sh' xs m =>
      simp only at hk
      cases he : Shape.eqb sh' sh with
      | false => simp [he] at hk
      | true =>
        simp only [he] at hk
        obtain rfl := eqb_of _ _ he
        obtain ⟨ys, psy, hk, y1, y2, y3⟩ := srcK_ok hT h e6 e2 e5 hb' hx hk
        exact appFits_ok h e1 e2 e5 hb' e3 hz4 hs y1 y2 y3 hk
    | bs id p sh' off len cap =>
      simp only at hk
      cases he : Shape.eqb sh' sh with
      | false => simp [he] at hk
      | true =>
        simp only [he] at hk
        obtain rfl := eqb_of _ _ he
        obtain ⟨ys, psy, hk, y1, y2, y3⟩ := srcK_ok hT h e6 e2 e5 hb' hx hk
        exact appIn_ok h e1 e2 e3 hs y1 y2 y3 hk.1 hk.2
    | _ => exact hk.elim

/-- An append into a row of its own, kept as a box. -/
theorem appNew_ok {E : Env} {nt : Nat} {tm : List (Nat × AV)} {bx : List (AV × Bool)} {lv : List Nat} {nx : Nat} {tmps : Array Value} {d : Option Nat} {K : AS → Prop} (h : Sim D B E ⟨nt, tm, ⟨bx, lv, nx⟩⟩ tmps) {t tx ty e : TypeId} {i : TypeInfo} {z : Value} {za : AV} {sh : Shape} (ht : P.underlying t = some (.slice e)) (hi : P.info? e = some i) (hz : i.zero = some z) (hb : i.bytes ≤ 4096) (hsz : i.size = sh.size)
    (hz1 : ∀ E : Env, ∀ shs, IR E shs za z.cells.toList) (hz2 : za.shape = sh) (hz3 : za.pure = true) {xs ys : List AV} {base : Option Addr} {c : Nat} {xv : Value} {psy : List (List Value)} (hsrc : SrcOK P E sh.size sh (.slice base xs.length c) xs) (hya : allSh sh ys) (hyp : PRs E.w E.lim ys psy) (hy : Yield P E.w tx e sh.size ys.length psy.flatten xv) (hgrow : c < xs.length + ys.length) (hk : appNew nt tm bx lv nx d sh xs.length xs ys za K) :
    OpRes P D B E nt tm tmps d K (Builtin.append_ #[t, tx] ty #[.slice base xs.length c, xv]) := by
  obtain ⟨hsm, hk⟩ := hk
  obtain ⟨psx, q1, q2⟩ := hsrc.cells
  have hxl : psx.flatten.length = xs.length * sh.size := by rw [PRs_len xs psx q1, sizes_all hsrc.all]
  have hyl : psy.flatten.length = ys.length * sh.size := by rw [PRs_len _ _ hyp, sizes_all hya]
  have ho : (Builtin.firstCells i.size xs.length (.slice base xs.length c)).run P E.w.drew = .ok psx.flatten.toArray E.w.drew := by
    have := q2 xs.length (Nat.le_refl _) E.w.drew (fun _ _ _ h => h)
    rw [hsz, this, List.take_of_length_le (by omega)]
  rw [← hsz] at hy
  obtain ⟨nc, g1, g3⟩ := run_app_grow' (ty := ty) ht hi hz hb (base := base) hy ho hgrow hsm
  have hk := hk nc g1
  have hk := litK_of hk
  have hk := forceB_of _ _ hk
  have hfl := zeroCells_flat (z := z.cells) (nc - (xs.length + ys.length))
  have hall : allSh sh (xs ++ ys ++ List.replicate (nc - (xs.length + ys.length)) za) := (hsrc.all.append hya).append fun y hy => by rw [(List.mem_replicate.1 hy).2]; exact ⟨hz2, hz3⟩
  have hrz : allSh sh (List.replicate (nc - (xs.length + ys.length)) za) := fun y hy => by rw [(List.mem_replicate.1 hy).2]; exact ⟨hz2, hz3⟩
  have hps := (IRs_pure _ _ (pures_all hrz)).1 (IRs_replicate (hz1 E.drew (shsOf bx)) (nc - (xs.length + ys.length)))
  have hde : Ext E.w E.lim E.drew.w E.drew.lim := ⟨fun _ _ _ => rfl, fun _ => Nat.le_refl _⟩
  have hir : IR E.drew (shsOf bx) (.ar nc sh (xs ++ ys ++ List.replicate (nc - (xs.length + ys.length)) za)) ((psx.flatten ++ psy.flatten).toArray ++ Builtin.zeroCells z.cells (nc - (xs.length + ys.length))).toList := by
    refine ⟨by simp only [List.length_append, List.length_replicate]; omega, hall, psx ++ psy ++ List.replicate (nc - (xs.length + ys.length)) z.cells.toList, (PRs_append _ _ _).2 ⟨_, _, rfl, (PRs_append _ _ _).2 ⟨_, _, rfl, PRs_ext hde _ _ q1, PRs_ext hde _ _ hyp⟩, hps⟩, ?_⟩
    rw [Array.toList_append, hfl]
    simp
  obtain ⟨E', k1, k2, k3⟩ := newbox_ok h.drew e hir
  refine ⟨E', _, _, .slice (some ⟨E.w.heap.size, 0, none⟩) (xs.length + ys.length) nc, k1, ?_, ?_, hk⟩
  · refine ⟨E.w.heap.size, .ar nc sh, 0, nc, 0, k3, ?_, rfl, rfl, by omega, g1, fun _ => by simp, rfl⟩
    rw [shsOf_append, List.getElem?_append_right (by simp [shsOf])]
    simp [shsOf, AV.shape]
  · rw [g3, k2]
    rfl
theorem wAppB_ok (hT : TabOK P D) {E : Env} {σ : AS} {a : Act} {d : Option Nat} {K : AS → Prop} (h : Sim D B E σ a.tmps) {t t2 ty : Nat} {s x : AV} {sv xv : Value} (hs : Rep E (shsOf σ.m.bx) s sv) (hx : Rep E (shsOf σ.m.bx) x xv) (hk : wAppB D σ d t t2 s x K) :
    OpRes P D B E σ.nt σ.tm a.tmps d K (Builtin.append_ #[t, t2] ty #[sv, xv]) := by
  obtain ⟨nt, tm, bx, lv, nx⟩ := σ
  simp only [wAppB] at hk
  obtain ⟨e, sh, by_, i, zv, hk, e1, e2, e3, e4, e5, kd, za, e6⟩ := slc_fact hT hk
  cases hb : Nat.ble by_ 4096 with
  | false => simp [hb] at hk
  | true =>
    simp only [hb, e6] at hk
    have hb' : i.bytes ≤ 4096 := by rw [e4]; exact Nat.le_of_ble_eq_true hb
    have hz1 : ∀ E : Env, ∀ shs, IR E shs za zv.cells.toList := fun E shs => (zero_cells hT e6 e2 e5).1
    obtain ⟨_, hz2, hz3, hz4⟩ := zero_cells hT (E := E) (shs := shsOf bx) e6 e2 e5
    cases s with
    | sl sh' xs m =>
      cases m with
      | ex =>
        simp only at hk
        cases he : Shape.eqb sh' sh with
        | false => simp [he] at hk
        | true =>
          simp only [he] at hk
          obtain rfl := eqb_of _ _ he
          obtain ⟨ys, psy, hk, y1, y2, y3⟩ := srcK_ok hT h e6 e2 e5 hb' hx hk
          obtain ⟨a, c, rfl, q2, q3, _⟩ := rep_sl hs
          have q3 := q3 rfl
          subst q3
          cases hb0 : Nat.blt 0 ys.length with
          | true =>
            rw [hb0] at hk
            have h0 : 0 < ys.length := by simpa [Nat.blt_eq] using hb0
            obtain ⟨s2, xs2, hr, hsrc⟩ := readS_ok (P := P) (K := fun s2 xs2 => s2 = sh' ∧ xs2 = xs) h hs ⟨rfl, rfl⟩
            obtain ⟨rfl, rfl⟩ := hr
            exact appNew_ok h e1 e2 e5 hb' e3 hz1 hz2 hz3 hsrc y1 y2 y3 (by omega) hk
          | false =>
            rw [hb0] at hk
            have h0 : ys.length = 0 := by
              have : ¬ 0 < ys.length := fun h => by
                have : Nat.blt 0 ys.length = true := by simpa [Nat.blt_eq] using h
                rw [this] at hb0; simp at hb0
              omega
            refine ⟨E, _, _, .slice a xs.length xs.length, h, hs, ?_, hk⟩
            have hpy : psy.flatten = [] := List.eq_nil_of_length_eq_zero (by rw [PRs_len _ _ y2, sizes_all y1, h0, Nat.zero_mul])
            rw [← e3] at y3
            have := run_app_room (ty := ty) e1 e2 (base := a) (n := xs.length) (c := xs.length) (w' := E.w) y3 (by omega) (by
              cases a with
              | none => exact .inl ⟨rfl, rfl⟩
              | some a => exact .inr ⟨a, rfl, by rw [hpy]; simp [storeCells]⟩)
            rw [h0] at this
            simpa using this
      | _ => exact hk.elim
    | bs id p sh' off len cap =>
      simp only at hk
      cases he : Shape.eqb sh' sh with
      | false => simp [he] at hk
      | true =>
        simp only [he] at hk
        obtain rfl := eqb_of _ _ he
        obtain ⟨ys, psy, hk, y1, y2, y3⟩ := srcK_ok hT h e6 e2 e5 hb' hx hk
        cases hb0 : Nat.ble (len + ys.length) cap with
        | true =>
          rw [hb0] at hk
          exact appIn_ok h e1 e2 e3 hs y1 y2 y3 (Nat.le_of_ble_eq_true hb0) hk
        | false =>
          rw [hb0] at hk
          have hgr : cap < len + ys.length := by
            have : ¬ (len + ys.length ≤ cap) := fun h => by rw [Nat.ble_eq_true_of_le h] at hb0; simp at hb0
            omega
          have hk : readS bx (.bs id p sh' off len cap) fun s2 xs => match Shape.eqb s2 sh' with
              | true => appNew nt tm bx lv nx d sh' len xs ys za K
              | false => False := hk
          obtain ⟨s2, xs, hk2, hsrc⟩ := readS_ok (P := P) h hs hk
          clear hk
          obtain ⟨b, t', o, n, o', h1, h2, h3, h4, h5, h6, h7, rfl⟩ := rep_bs hs
          have hl := hsrc.len E.w
          simp only [Builtin.lenOf, Sem.run_pure, Result.ok.injEq, and_true] at hl
          subst hl
          cases he2 : Shape.eqb s2 sh' with
          | false => simp [he2] at hk2
          | true =>
            simp only [he2] at hk2
            obtain rfl := eqb_of _ _ he2
            exact appNew_ok h e1 e2 e5 hb' e3 hz1 hz2 hz3 hsrc y1 y2 y3 hgr hk2
    | _ => exact hk.elim

theorem wClear_ok (hT : TabOK P D) {E : Env} {σ : AS} {a : Act} {d : Option Nat} {K : AS → Prop} (h : Sim D B E σ a.tmps) {t ty : Nat} {s : AV} {sv : Value} (hs : Rep E (shsOf σ.m.bx) s sv) (hk : wClear D σ d t s K) :
    OpRes P D B E σ.nt σ.tm a.tmps d K (Builtin.clear_ #[t] ty #[sv]) := by
  obtain ⟨nt, tm, bx, lv, nx⟩ := σ
  simp only [wClear] at hk
  cases d with
  | some _ => exact hk.elim
  | none =>
    simp only at hk
    obtain ⟨e, sh, by_, i, zv, hk, e1, e2, e3, e4, e5, kd, za, e6⟩ := slc_fact hT hk
    obtain ⟨hz1, hz2, hz3, hz4⟩ := zero_cells hT (E := E) (shs := shsOf bx) e6 e2 e5
    cases s with
    | bs id p sh' off len cap =>
      simp only at hk
      cases he : Shape.eqb sh' sh with
      | false => simp [he] at hk
      | true =>
        simp only [he, e6] at hk
        obtain rfl := eqb_of _ _ he
        obtain ⟨b, t', o, n, o', h1, h2, h3, h4, h5, h6, h7, rfl⟩ := rep_bs hs
        have hall : allSh sh' (List.replicate len za) := fun y hy => by rw [(List.mem_replicate.1 hy).2]; exact ⟨hz2, hz3⟩
        have hps := (IRs_pure _ _ (pures_all hall)).1 (IRs_replicate hz1 len)
        obtain ⟨cs, tyb, fz, E', bx', k1, k2, k3, k4, k5, k6, k7, k8⟩ := lay_ok h h1 h2 h3 h4 hall hps (by rw [List.length_replicate]; omega) hk
        have hfl := zeroCells_flat (z := zv.cells) len
        rw [← hfl] at k5 k6
        refine ⟨E', _, .tup [], .tuple #[], k2, ⟨[], rfl, rfl⟩, ?_, k1⟩
        cases len with
        | zero =>
          have hnil : (Builtin.zeroCells zv.cells 0).toList = [] := by rw [hfl]; rfl
          have hE : E'.w = E.w := by
            rw [k5, hnil]
            simp only [putL]
            rw [setBlk_self k3]
          simp [Builtin.clear_, run_underlying' e1, hE]
        | succ m =>
          have ho' := h7 (by omega)
          have hone : ∀ v ∈ (Builtin.zeroCells zv.cells (m + 1)).toList, v.oneCell' = true := by rw [hfl]; exact PRs_one _ _ hps
          have hstore := run_storeCells_blk (P := P) (a := (⟨b, o', none⟩ : Addr)) (b := b) rfl rfl (Builtin.zeroCells zv.cells (m + 1)).toList 0 cs E.w k3 k4 (by simp only [ho', Nat.add_zero]; exact k6) hone
          simp only [Nat.add_zero, ho'] at hstore
          simp [Builtin.clear_, run_underlying' e1, run_zeroValue' e2 e5, ho', hstore, k5]
    | _ => exact hk.elim

theorem run_copy {w w' : World} {t tx ty e : TypeId} {i : TypeInfo} (ht : P.underlying t = some (.slice e)) (hi : P.info? e = some i) {a : Addr} {n c k : Nat} {x : Value} {yc : List Value} (hl : (Builtin.lenOf x).run P w = .ok k w) (hc : (Builtin.firstCells i.size (min k n) x).run P w = .ok yc.toArray w)
    (hst : (storeCells a yc).run P w = .ok () w') : (Builtin.copy_ #[t, tx] ty #[.slice (some a) n c, x]).run P w = .ok (.int .i64 (min k n : Nat)) w' := by
  have hm : Nat.min k n = min k n := rfl
  simp [Builtin.copy_, run_underlying' ht, run_sizeOf' hi, hl, hm, hc, hst, goInt]

theorem cpGo_ok {E : Env} {nt : Nat} {tm : List (Nat × AV)} {bx : List (AV × Bool)} {lv : List Nat} {nx : Nat} {tmps : Array Value} {d : Option Nat} {K : AS → Prop} (h : Sim D B E ⟨nt, tm, ⟨bx, lv, nx⟩⟩ tmps) {t tx ty e : TypeId} {i : TypeInfo} (ht : P.underlying t = some (.slice e)) (hi : P.info? e = some i) {s : Shape} (hsz : i.size = s.size)
    {id : Nat} {p : List Nat} {off len cap : Nat} {ys : List AV} {sv xv : Value} (hs : Rep E (shsOf bx) (.bs id p s off len cap) sv) (hsrc : SrcOK P E s.size s xv ys) (hk : cpGo nt tm bx lv nx d id p off len ys K) :
    OpRes P D B E nt tm tmps d K (Builtin.copy_ #[t, tx] ty #[sv, xv]) := by
  obtain ⟨b, t', o, n, o', h1, h2, h3, h4, h5, h6, h7, rfl⟩ := rep_bs hs
  unfold cpGo at hk
  obtain ⟨c, f, cs, tyb, fz, g1, g2, g3, g4, g5, g6, _, g8⟩ := box_at h h1 h2 hk
  cases f with
  | true => exact g2.elim
  | false =>
    simp only at g2
    obtain ⟨v', o2, k1, k2, k3, k4, kpu, k6⟩ := rd_ok E (shsOf bx) p c cs.toList _ g6 g2
    clear kpu
    rw [g3, h3] at k2
    rw [g3, h4] at k3
    simp only [Option.some.injEq] at k2 k3
    subst k2
    split at k1
    · rename_i n' s' xs
      simp only [AV.shape, Shape.ar.injEq] at k3
      obtain ⟨rfl, rfl⟩ := k3
      obtain ⟨l1, l2, ps, hp, hc⟩ := k6
      obtain ⟨psy, y1, y2⟩ := hsrc.cells
      have hyl : psy.flatten.length = ys.length * s.size := by rw [PRs_len _ _ y1, sizes_all hsrc.all]
      -- the three pieces
      have e : xs = xs.take off ++ xs.drop off := by simp
      rw [e] at hp
      obtain ⟨p1, q1, rfl, a1, a2⟩ := (PRs_append _ _ _).1 hp
      have e' : xs.drop off = (xs.drop off).take (min ys.length len) ++ xs.drop (off + min ys.length len) := by rw [← List.drop_drop, List.take_append_drop]
      rw [e'] at a2
      obtain ⟨p2, p3, rfl, a3, a4⟩ := (PRs_append _ _ _).1 a2
      have ey : ys = ys.take len ++ ys.drop len := by simp
      have y1' := y1
      rw [ey] at y1'
      obtain ⟨py, pz, rfl, b1, b2⟩ := (PRs_append _ _ _).1 y1'
      have lp1 : p1.flatten.length = off * s.size := by rw [PRs_len _ _ a1, sizes_all (l2.take off), List.length_take, Nat.min_eq_left (by omega)]
      have lp2 : p2.flatten.length = (min ys.length len) * s.size := by rw [PRs_len _ _ a3, sizes_all ((l2.drop off).take _), List.length_take, List.length_drop, Nat.min_eq_left (by omega)]
      have lpy : py.flatten.length = (min ys.length len) * s.size := by rw [PRs_len _ _ b1, sizes_all (hsrc.all.take len), List.length_take, Nat.min_comm]
      have hall' : allSh s (xs.take off ++ ys.take len ++ xs.drop (off + min ys.length len)) := ((l2.take off).append (hsrc.all.take len)).append (l2.drop _)
      have hlen' : (xs.take off ++ ys.take len ++ xs.drop (off + min ys.length len)).length = n := by
        simp only [List.length_append, List.length_take, List.length_drop]
        omega
      have hnew : IR E (shsOf bx) (.ar n s (xs.take off ++ ys.take len ++ xs.drop (off + min ys.length len))) (p1 ++ py ++ p3).flatten :=
        ⟨hlen', hall', _, (PRs_append _ _ _).2 ⟨_, _, rfl, (PRs_append _ _ _).2 ⟨_, _, rfl, a1, b1⟩, a4⟩, rfl⟩
      obtain ⟨c', E', w1, w2, w3, w4⟩ := boxput_ok h g1 h1 g3 h3 g4 g6 (g8 rfl) hnew k1
      refine ⟨E', _, _, .int .i64 (min ys.length len : Nat), w2, rep_sc.2 ⟨rfl, rfl⟩, ?_, forceB_of (bx.set id (c', false)) (fun bx' => AS.put ⟨nt, tm, ⟨bx', lv, nx⟩⟩ d (.sc (.int .i64 (min ys.length len : Nat))) K) w1⟩
      have hmin : min ys.length len ≤ ys.length := Nat.min_le_left _ _
      have hfc := y2 (min ys.length len) hmin E.w (fun _ _ _ h => h)
      rw [List.flatten_append, List.take_append_of_le_length (by omega), List.take_of_length_le (by omega)] at hfc
      have hcs : o + (AV.ar n s xs).shape.size ≤ cs.size := by
        have := IR_len c _ g6
        simp only [Array.length_toList] at this
        omega
      have hshn : (AV.ar n s xs).shape.size = n * s.size := rfl
      have hoffs : off * s.size + (min ys.length len) * s.size ≤ n * s.size := by rw [← Nat.add_mul]; exact Nat.mul_le_mul_right _ (by omega)
      have hold : (cs.toList.drop o).take (AV.ar n s xs).shape.size = p1.flatten ++ (p2.flatten ++ p3.flatten) := by rw [hc, List.flatten_append, List.flatten_append]
      rw [hshn] at hcs
      -- the cells that are stored, seen as a whole
      have hput : putL cs o (p1 ++ py ++ p3).flatten = putL cs (o + off * s.size) py.flatten := by
        have hlp3 : p1.flatten.length + (p2.flatten.length + p3.flatten.length) = n * s.size := by
          have := congrArg List.length hold
          rw [List.length_take, List.length_drop, hshn] at this
          simp only [List.length_append, Array.length_toList] at this
          omega
        have hfl : (p1 ++ py ++ p3).flatten = p1.flatten ++ (py.flatten ++ p3.flatten) := by simp
        have hA : o + (p1 ++ py ++ p3).flatten.length ≤ cs.size := w4
        have hB : o + off * s.size + py.flatten.length ≤ cs.size := by omega
        apply Array.ext'
        rw [putL_list hA, putL_list hB]
        have hsplit : cs.toList = cs.toList.take o ++ (p1.flatten ++ (p2.flatten ++ p3.flatten)) ++ cs.toList.drop (o + n * s.size) := by
          rw [← hold, hshn, ← List.drop_drop, List.append_assoc, List.take_append_drop, List.take_append_drop]
        have hto : (cs.toList.take o).length = o := by rw [List.length_take, Array.length_toList]; omega
        have hlen1 : (p1 ++ py ++ p3).flatten.length = n * s.size := by rw [hfl]; simp only [List.length_append]; omega
        rw [hlen1, hfl]
        have r1 : cs.toList.take (o + off * s.size) = cs.toList.take o ++ p1.flatten := by
          have e3 : cs.toList = (cs.toList.take o ++ p1.flatten) ++ ((p2.flatten ++ p3.flatten) ++ cs.toList.drop (o + n * s.size)) := by
            conv => lhs; rw [hsplit]
            simp
          conv => lhs; rw [e3]
          exact List.take_left' (by rw [List.length_append, hto, lp1])
        have r2 : cs.toList.drop (o + off * s.size + py.flatten.length) = p3.flatten ++ cs.toList.drop (o + n * s.size) := by
          conv => lhs; rw [hsplit]
          have hpre : (cs.toList.take o ++ (p1.flatten ++ p2.flatten)).length = o + off * s.size + py.flatten.length := by
            simp only [List.length_append, hto]; omega
          rw [show cs.toList.take o ++ (p1.flatten ++ (p2.flatten ++ p3.flatten)) ++ cs.toList.drop (o + n * s.size) = (cs.toList.take o ++ (p1.flatten ++ p2.flatten)) ++ (p3.flatten ++ cs.toList.drop (o + n * s.size)) by simp]
          rw [List.drop_append, List.drop_of_length_le (by omega), hpre, Nat.sub_self, List.drop_zero, List.nil_append]
        rw [r1, r2]
        simp
      have hlx := hsrc.len E.w
      by_cases h0 : min ys.length len * s.size = 0
      · have hpy : py.flatten = [] := List.eq_nil_of_length_eq_zero (by omega)
        rw [hpy] at hfc
        have := run_copy (ty := ty) (tx := tx) (c := cap) (a := ⟨b, o', none⟩) (n := len) (yc := []) (w' := E.w) ht hi hlx (by rw [hsz]; simpa using hfc) (by simp [storeCells])
        rw [this, w3, hput, hpy]
        simp only [putL]
        rw [setBlk_self g4]
      · have hlc : 0 < cap := by
          rcases Nat.eq_zero_or_pos cap with hz | hz
          · exfalso; apply h0; rw [show min ys.length len = 0 by omega, Nat.zero_mul]
          · exact hz
        have ho' := h7 (by omega)
        have hstore := run_storeCells_blk (P := P) (a := (⟨b, o', none⟩ : Addr)) (b := b) rfl rfl py.flatten 0 cs E.w g4 g5 (by simp only [ho', Nat.add_zero]; omega) (PRs_one _ _ b1)
        have := run_copy (ty := ty) (tx := tx) (c := cap) (a := ⟨b, o', none⟩) (n := len) (yc := py.flatten) ht hi hlx (by rw [hsz]; simpa using hfc) hstore
        rw [this, w3, hput]
        simp only [Nat.add_zero, ho']
    · exact k1.elim
end
end Go.WL
namespace Go.WL
section
variable {P : Program} {D : Tabs} {B : Base}

def strCells (s : ByteArray) : Array Value := s.data.map fun b => Value.int IntKind.u8 b.toNat
theorem strCells_size (s : ByteArray) : (strCells s).size = s.size := by
  unfold strCells
  rw [Array.size_map]
  rfl
theorem strCells_list (s : ByteArray) : (strCells s).toList = (s.toList.map fun b => [Value.int IntKind.u8 (b.toNat : Int)]).flatten := by
  unfold strCells
  rw [Array.toList_map, ByteArray.toList_eq]
  generalize s.data.toList = l
  induction l with
  | nil => rfl
  | cons c l ih => simp [ih]
theorem run_conv_str {w : World} {src dst e : TypeId} {ds : TypeDesc} (hs : P.underlying src = some ds) (hd : P.underlying dst = some (.slice e)) (he : P.underlying e = some (.int .u8)) (s : ByteArray) :
    ∃ (rest : Array Value) (w' : World), (convert src dst (.string s)).run P w = .ok (.slice (some ⟨w.heap.size, 0, none⟩) s.size (s.size + rest.size)) w' ∧
      w' = { w with drawn := w.drawn + 1, heap := w.heap.push (.cells (strCells s ++ rest) e (s.size + rest.size, s.size + rest.size + 1)) } := by
  have hcut : s.size ≤ (Question.appendCap s.size 0 e).cut (w.tape w.drawn (.appendCap s.size 0 e)) := by simp [Question.cut]
  obtain ⟨c, hc⟩ : ∃ c, (Question.appendCap s.size 0 e).cut (w.tape w.drawn (.appendCap s.size 0 e)) = s.size + c := ⟨_, (Nat.add_sub_cancel' hcut).symm⟩
  refine ⟨Array.replicate c (.int .u8 0), _, ?_, rfl⟩
  have hsz : (strCells s ++ Array.replicate c (Value.int IntKind.u8 0)).size = s.size + c := by rw [Array.size_append, strCells_size, Array.size_replicate]
  have hconv : (convert src dst (.string s)).run P w = (Conv.stringToBytes e s).run P w := by
    cases ds <;> simp [convert, run_underlying' hs, run_underlying' hd, run_underlying' he]
  rw [hconv]
  have hsh : ∀ (w1 : World), w1.heap[w.heap.size]? = some (.cells (strCells s ++ Array.replicate c (.int .u8 0)) e (0, 0)) → w1.shape? w.heap.size = some (e, s.size + c) := by
    intro w1 h1
    simp [World.shape?, h1, strCells_size]
  have hfr : ∀ (h : Array Obj), h.size = w.heap.size → ({ w with drawn := w.drawn + 1, heap := h.push (.cells (strCells s ++ Array.replicate c (.int .u8 0)) e) } : World).freeze ⟨w.heap.size, s.size + c, none⟩ 1 =
      { w with drawn := w.drawn + 1, heap := h.push (.cells (strCells s ++ Array.replicate c (.int .u8 0)) e (s.size + c, s.size + c + 1)) } := by
    intro h hh
    simp only [World.freeze, Nat.one_ne_zero, if_false, World.mk.injEq, and_true, true_and]
    apply Array.ext_getElem?
    intro i
    simp only [Array.getElem?_modify, Array.getElem?_push, hh]
    by_cases hi : w.heap.size = i
    · subst hi; simp
    · simp [hi, Ne.symm hi]
  unfold Conv.stringToBytes
  have hpush : ∀ o, (w.heap.push o)[w.heap.size]? = some o := fun o => by simp
  have e1 : (s.data.map fun b => Value.int IntKind.u8 (b.toNat : Int)) = strCells s := rfl
  simp only [Sem.run_bind, choose, Sem.run, Question.forced, Bool.false_eq_true, if_false, Result.andThen_ok, hc, Nat.add_sub_cancel_left, newRow, newObj, Sem.run_pure, markStringish, shape, e1]
  rw [hsh _ (hpush _)]
  simp only [Sem.run_bind, freeze, Sem.run, Result.andThen_ok, Sem.run_pure, Array.size_replicate]
  rw [hfr _ rfl]

theorem isConv_ok (hT : TabOK P D) {E : Env} {nt : Nat} {tm : List (Nat × AV)} {m : Mem} {tmps : Array Value} {d : Option Nat} {K : AS → Prop} (h : Sim D B E ⟨nt, tm, m⟩ tmps) {src dst : Nat} {x : AV} {u : Value} (hx : Rep E (shsOf m.bx) x u) (hk : isConv D src dst x fun v => AS.put ⟨nt, tm, m⟩ d v K) :
    OpRes P D B E nt tm tmps d K (convert src dst u) := by
  unfold isConv at hk
  split at hk
  · exact hk.elim
  · rename_i ks shs bs zs hsrc
    obtain ⟨ds, _, _, s1, _, _, _, s4, _⟩ := (hT src _ hsrc).fact
    split at hk
    · rename_i hd
      obtain ⟨_, _, _, d1, _, _, _, d4, _⟩ := (hT dst _ hd).fact
      obtain ⟨_, rfl⟩ := d4
      split at hk
      · obtain ⟨rfl, _⟩ := rep_sc.1 hx
        refine ⟨E, m, _, _, h, rep_sc.2 ⟨rfl, rfl⟩, ?_, hk⟩
        cases ds <;> simp [convert, run_underlying' s1, run_underlying' d1, Conv.intToInt]
      · exact hk.elim
    · rename_i hd
      obtain ⟨_, _, _, d1, _, _, _, d4, _⟩ := (hT dst _ hd).fact
      obtain ⟨_, rfl⟩ := d4
      split at hk
      · obtain ⟨rfl, _⟩ := rep_sc.1 hx
        refine ⟨E, m, _, _, h, rep_sc.2 ⟨rfl, rfl⟩, ?_, hk⟩
        cases ds <;> simp [convert, run_underlying' s1, run_underlying' d1]
      · rename_i sh xs mk
        obtain ⟨e, rfl⟩ : ∃ e, ks = .slice e := by cases ks <;> first | exact ⟨_, rfl⟩ | exact hk.elim
        simp only at hk
        obtain ⟨_, rfl⟩ := s4
        split at hk
        · rename_i he
          obtain ⟨_, _, _, e1, _, _, _, e4, _⟩ := (hT e _ he).fact
          obtain ⟨_, rfl⟩ := e4
          obtain ⟨bs, rfl, hk⟩ := hk
          obtain ⟨a, c, rfl, h2, h3, h4, h5, h6, _⟩ := rep_sl hx
          refine ⟨E, m, _, _, h, rep_sc.2 ⟨rfl, rfl⟩, ?_, hk⟩
          cases a with
          | none =>
            have : bs = [] := by
              rcases h6 with h6 | ⟨ad, _, h6, _⟩
              · simpa [by8] using h6
              · simp at h6
            subst this
            rw [run_convert_bytes_nil E.w src e s1 e1 _ _ dst d1]
            rfl
          | some ad =>
            have hl : (bs.map fun b => (b.toNat : Int)).length = (by8 bs).length := by simp [by8]
            have hstr : strOfNums (bs.map fun b => (b.toNat : Int)) = ⟨bs.toArray⟩ := by
              unfold strOfNums
              congr 2
              rw [List.map_map]
              conv => rhs; rw [← List.map_id bs]
              apply List.map_congr_left
              intro b _
              simp
            rcases h6 with h6 | ⟨ad', ps, h6, h7, h8⟩
            · have : bs = [] := by simpa [by8] using h6
              subst this
              simp [convert, run_underlying' s1, run_underlying' d1, run_underlying' e1, Conv.bytesToString, by8, loadCells, loadCellsFrom]
              rfl
            · simp only [Option.some.injEq] at h6
              subst h6
              have hps : ps.flatten = bs.map fun b => Value.int .u8 (b.toNat : Int) := by
                rw [by8_ints] at h7
                have := PRs_ints .u8 _ ps h7
                rw [this, List.map_map]
                rfl
              have := run_convert_bytes_arg E.w src e s1 e1 ad.block ad.off (by8 bs).length c _ hl (fun i hi => by
                refine h8.2.1 i _ ?_
                have hi' : i < bs.length := by simpa [by8] using hi
                rw [hps, List.getElem?_map, List.getElem?_eq_getElem hi', List.getD_eq_getElem?_getD, List.getElem?_map, List.getElem?_eq_getElem hi']
                rfl) dst d1
              have ea : ad = ⟨ad.block, ad.off, none⟩ := by cases ad; have := h8.1; simp_all
              rw [← ea, hstr] at this
              exact this
        · exact hk.elim
      · exact hk.elim
    · rename_i e shd bd zd hd
      obtain ⟨_, _, _, d1, _, _, _, d4, _⟩ := (hT dst _ hd).fact
      obtain ⟨_, rfl⟩ := d4
      split at hk
      · rename_i s
        obtain ⟨rfl, _⟩ := rep_sc.1 hx
        split at hk
        · rename_i he
          obtain ⟨_, _, _, e1, _, _, _, e4, _⟩ := (hT e _ he).fact
          obtain ⟨_, rfl⟩ := e4
          obtain ⟨hsm, hk⟩ := hk
          obtain ⟨rest, w', r1, r2⟩ := run_conv_str (P := P) (w := E.w) s1 d1 e1 s
          have hsz : (strCells s ++ rest).size = s.size + rest.size := by rw [Array.size_append, strCells_size]
          have h' := h.drew.alloc (strCells s ++ rest) e (s.size + rest.size, s.size + rest.size + 1) s.size (by omega)
          have hsl : (bytesAV s).length = s.size := by
            unfold bytesAV by8
            rw [List.length_map, ByteArray.toList_eq]
            simp
          obtain ⟨q1, q2⟩ := new_row (ty := e) (fz := (s.size + rest.size, s.size + rest.size + 1)) (k := s.size) (cells := strCells s ++ rest) h.drew (PRs_by8 (w := E.drew.w) (lim := E.drew.lim) s.toList) (by
            rw [← strCells_list, Array.toList_append, Array.length_toList, List.take_left' (by simp)]) (by
            rw [← strCells_list, Array.length_toList, strCells_size]; exact Nat.le_refl _)
          refine ⟨_, m, _, _, h', ?_, by rw [r1, r2]; rfl, hk⟩
          exact ⟨⟨some ⟨E.w.heap.size, 0, none⟩, s.size + rest.size, by rw [hsl], by omega, fun h => by simp at h, allSh_by8 _, by simp, .inr ⟨_, _, rfl, q1, q2⟩⟩, fun r hr => by simp at hr⟩
        · exact hk.elim
      · exact hk.elim
    · exact hk.elim
end
end Go.WL
namespace Go.WL

/-- A call that returns: of a function with a body, or of one that the model knows. -/
def CallsX (P : Program) (f : FuncId) (args : Array Value) (w : World) (R : Value → World → Prop) : Prop :=
  (∃ fn, P.funcs[f]? = some fn ∧ (fn.name == "runtime.NumGoroutine") = false ∧ fn.body.isNone = false ∧ Calls P f args w fun e w' => ∃ v, e = .returned v ∧ R v w') ∨
  ∃ v w', (callFunc f args).run P w = .ok (.value v) w' ∧ R v w'

def boxesOf (st : List AV) : List (AV × Bool) := st.map fun c => (c, false)

/-- A function's contract: from these arguments and boxes it comes back, with an answer and boxes that 'Q' tells. -/
structure FnOK (P : Program) (D : Tabs) (f : Nat) (args st : List AV) (Q : AV → List AV → Prop) : Prop where
  run : ∀ (E : Env) (us : List Value), MSim D E (boxesOf st) (AV.rowss st) → E.nx = (AV.rowss st).length → RepL E (shsOf (boxesOf st)) args us →
    CallsX P f us.toArray E.w fun v w' => ∃ E' r st', E'.w = w' ∧ MSim D E' (boxesOf st') (AV.rows r ++ AV.rowss st') ∧ Rep E' (shsOf (boxesOf st')) r v ∧
      FrameB ⟨E.w, E.lim, fun b => b ∈ claims E (AV.rowss st), E.bx, shsOf (boxesOf st)⟩ E' (claims E' (AV.rows r ++ AV.rowss st')) ∧ shsOf (boxesOf st) <+: shsOf (boxesOf st') ∧ Q r st'

theorem CallsX.mono {P : Program} {f : FuncId} {args : Array Value} {w : World} {R R' : Value → World → Prop} (h : CallsX P f args w R) (hr : ∀ v w', R v w' → R' v w') : CallsX P f args w R' := by
  rcases h with ⟨fn, h1, h2, h3, h4⟩ | ⟨v, w', h1, h2⟩
  · exact .inl ⟨fn, h1, h2, h3, h4.mono fun e w' ⟨v, he, hR⟩ => ⟨v, he, hr _ _ hR⟩⟩
  · exact .inr ⟨v, w', h1, hr _ _ h2⟩
theorem FnOK.mono {P : Program} {D : Tabs} {f : Nat} {args st : List AV} {Q Q' : AV → List AV → Prop} (h : FnOK P D f args st Q) (hq : ∀ r st', Q r st' → Q' r st') : FnOK P D f args st Q' :=
  ⟨fun E us h1 h2 h3 => (h.run E us h1 h2 h3).mono fun v w' ⟨E', r, st', k1, k2, k3, k4, k5, k6⟩ => ⟨E', r, st', k1, k2, k3, k4, k5, hq _ _ k6⟩⟩

-- names anew
mutual
theorem rows_ren (f g : Nat → Nat) : ∀ v : AV, (v.ren f g).rows = v.rows.map g
  | .st xs => by simp only [AV.ren, AV.rows, rowss_ren f g xs]
  | .sl s xs m => by cases m <;> rfl
  | .pt id p => rfl
  | .bs id p s off len cap => rfl
  | .fn k caps => by simp only [AV.ren, AV.rows, rowss_ren f g caps]
  | .sc v => rfl
  | .ar n s xs => rfl
  | .rp v => rfl
  | .tup xs => by simp only [AV.ren, AV.rows, rowss_ren f g xs]
theorem rowss_ren (f g : Nat → Nat) : ∀ xs : List AV, AV.rowss (AV.rens f g xs) = (AV.rowss xs).map g
  | [] => rfl
  | x :: xs => by simp only [AV.rens, AV.rowss, rows_ren f g x, rowss_ren f g xs, List.map_append]
end
mutual
theorem shape_ren (f g : Nat → Nat) : ∀ v : AV, (v.ren f g).shape = v.shape
  | .st xs => by simp only [AV.ren, AV.shape, shapes_ren f g xs]
  | .sl s xs m => by cases m <;> rfl
  | .pt id p => rfl
  | .bs id p s off len cap => rfl
  | .fn k caps => rfl
  | .sc v => rfl
  | .ar n s xs => rfl
  | .rp v => rfl
  | .tup xs => rfl
theorem shapes_ren (f g : Nat → Nat) : ∀ xs : List AV, AV.shapes (AV.rens f g xs) = AV.shapes xs
  | [] => rfl
  | x :: xs => by simp only [AV.rens, AV.shapes, shape_ren f g x, shapes_ren f g xs]
end
theorem rens_map (f g : Nat → Nat) : ∀ xs : List AV, AV.rens f g xs = xs.map (AV.ren f g)
  | [] => rfl
  | x :: xs => by simp only [AV.rens, List.map_cons, rens_map f g xs]
theorem shapes_map : ∀ xs : List AV, AV.shapes xs = xs.map AV.shape
  | [] => rfl
  | x :: xs => by simp only [AV.shapes, List.map_cons, shapes_map xs]
theorem shsOf_boxes (st : List AV) : shsOf (boxesOf st) = st.map AV.shape := by simp [shsOf, boxesOf]

theorem Rep0_tr {E E2 : Env} {shs shs2 : List Shape} {f g : Nat → Nat} {v : AV} {u : Value} (t : Tr E E2 shs shs2 f g v.ids v.rows) (h : Rep0 E shs v u) : Rep0 E2 shs2 (v.ren f g) u := by
  by_cases hs : v.shape = .lf
  · exact (rep0_lf (by rw [shape_ren]; exact hs)).2 (IR_tr v _ t ((rep0_lf hs).1 h))
  · obtain ⟨cs, rfl, h'⟩ := (rep0_ag hs).1 h
    exact (rep0_ag (by rw [shape_ren]; exact hs)).2 ⟨cs, rfl, IR_tr v _ t h'⟩
theorem RepL_tr {E E2 : Env} {shs shs2 : List Shape} {f g : Nat → Nat} : ∀ {xs : List AV} {us : List Value}, Tr E E2 shs shs2 f g (AV.idss xs) (AV.rowss xs) → RepL E shs xs us → RepL E2 shs2 (AV.rens f g xs) us
  | [], _, _, h => h
  | x :: xs, _, t, ⟨u, vs, h1, h2, h3⟩ => ⟨u, vs, h1, Rep0_tr (t.mono (by simp only [AV.idss]; intro i hi; simp [hi]) (by simp only [AV.rowss]; intro i hi; simp [hi])) h2,
      RepL_tr (t.mono (by simp only [AV.idss]; intro i hi; simp [hi]) (by simp only [AV.rowss]; intro i hi; simp [hi])) h3⟩
theorem Rep_tr {E E2 : Env} {shs shs2 : List Shape} {f g : Nat → Nat} {v : AV} {u : Value} (t : Tr E E2 shs shs2 f g v.ids v.rows) (h : Rep E shs v u) : Rep E2 shs2 (v.ren f g) u := by
  cases v with
  | tup xs => obtain ⟨us, h1, h2⟩ := h; exact ⟨us, h1, RepL_tr t h2⟩
  | sl s xs m => cases m <;> exact Rep0_tr t h
  | st xs => exact Rep0_tr (v := .st xs) t h
  | ar n s xs => exact Rep0_tr (v := .ar n s xs) t h
  | sc v => exact Rep0_tr (v := .sc v) t h
  | rp v => exact Rep0_tr (v := .rp v) t h
  | pt id p => exact Rep0_tr (v := .pt id p) t h
  | bs id p s off len cap => exact Rep0_tr (v := .bs id p s off len cap) t h
  | fn k caps => exact Rep0_tr (v := .fn k caps) t h

theorem posOf_ge : ∀ (l : List Nat) (y i : Nat), y ∈ l → i ≤ posOf l y i ∧ posOf l y i < i + l.length ∧ l[posOf l y i - i]? = some y
  | [], y, i, h => by simp at h
  | x :: l, y, i, h => by
    unfold posOf
    split
    · rename_i e
      have := Nat.eq_of_beq_eq_true e
      subst this
      simp
    · rename_i e
      have hne : x ≠ y := fun e' => by subst e'; simp at e
      have hm : y ∈ l := by
        rcases List.mem_cons.1 h with h | h
        · exact absurd h.symm hne
        · exact h
      obtain ⟨h1, h2, h3⟩ := posOf_ge l y (i + 1) hm
      refine ⟨by omega, by simp only [List.length_cons]; omega, ?_⟩
      rw [show posOf l y (i + 1) - i = (posOf l y (i + 1) - (i + 1)) + 1 by omega, List.getElem?_cons_succ]
      exact h3
theorem posOf_at {l : List Nat} {y : Nat} (h : y ∈ l) : l[posOf l y 0]? = some y ∧ posOf l y 0 < l.length := by
  obtain ⟨_, h2, h3⟩ := posOf_ge l y 0 h
  exact ⟨by simpa using h3, by simpa using h2⟩
theorem posOf_self {l : List Nat} (hn : l.Nodup) {i y : Nat} (h : l[i]? = some y) : posOf l y 0 = i := by
  obtain ⟨h1, h2⟩ := posOf_at (List.mem_of_getElem? h)
  obtain ⟨hi, hi'⟩ := List.getElem?_eq_some_iff.1 h
  obtain ⟨hj, hj'⟩ := List.getElem?_eq_some_iff.1 h1
  exact (List.getElem_inj hn).1 (hj'.trans hi'.symm)
theorem nthD_at : ∀ {l : List Nat} {i : Nat}, i < l.length → l[i]? = some (nthD l i)
  | [], i, h => by simp at h
  | x :: l, 0, h => rfl
  | x :: l, i + 1, h => by
    rw [List.getElem?_cons_succ]
    exact nthD_at (by simpa using h)
theorem map_pos {l : List Nat} (hn : l.Nodup) : l.map (fun k => posOf l k 0) = List.range l.length := by
  apply List.ext_getElem?
  intro i
  by_cases hi : i < l.length
  · rw [List.getElem?_map, List.getElem?_eq_getElem hi, List.getElem?_eq_getElem (by simpa using hi)]
    simp [posOf_self hn (List.getElem?_eq_getElem hi)]
  · rw [List.getElem?_eq_none (by simpa using hi), List.getElem?_eq_none (by simpa using hi)]

theorem contents_at : ∀ (bx : List (AV × Bool)) (l : List Nat) (cs : List AV), contents bx l = some cs → cs.length = l.length ∧ ∀ (j i : Nat), l[j]? = some i → ∃ c, cs[j]? = some c ∧ bx[i]? = some (c, false)
  | bx, [], cs, h => by
    simp only [contents, Option.some.injEq] at h
    subst h
    exact ⟨rfl, fun j i h => by simp at h⟩
  | bx, k :: l, cs, h => by
    simp only [contents] at h
    split at h
    · rename_i c hc
      cases hr : contents bx l with
      | none => simp [hr] at h
      | some cs' =>
        simp only [hr, Option.some.injEq] at h
        subst h
        obtain ⟨h1, h2⟩ := contents_at bx l cs' hr
        refine ⟨by simp [h1], fun j i hj => ?_⟩
        cases j with
        | zero => simp only [List.getElem?_cons_zero, Option.some.injEq] at hj; subst hj; exact ⟨c, rfl, hc⟩
        | succ j => simp only [List.getElem?_cons_succ] at hj ⊢; exact h2 j i hj
    · simp at h

theorem setAll_len : ∀ (ids : List Nat) (cs : List AV) (bx : List (AV × Bool)), (setAll bx ids cs).length = bx.length
  | [], cs, bx => by simp [setAll]
  | i :: l, [], bx => by simp [setAll]
  | i :: l, c :: cs, bx => by rw [setAll, setAll_len l cs]; simp
theorem setAll_at : ∀ (ids : List Nat) (cs : List AV) (bx : List (AV × Bool)) (k : Nat), ids.Nodup → ids.length = cs.length → (∀ i ∈ ids, i < bx.length) →
    (k ∉ ids → (setAll bx ids cs)[k]? = bx[k]?) ∧ ∀ (j : Nat), ids[j]? = some k → (setAll bx ids cs)[k]? = cs[j]?.map fun c => (c, false)
  | [], cs, bx, k, _, _, _ => by
    refine ⟨fun _ => by simp [setAll], fun j h => by simp at h⟩
  | i :: l, [], bx, k, _, hl, _ => by simp at hl
  | i :: l, c :: cs, bx, k, hn, hl, hb => by
    obtain ⟨hn1, hn2⟩ := List.nodup_cons.1 hn
    obtain ⟨h1, h2⟩ := setAll_at l cs (bx.set i (c, false)) k hn2 (by simpa using hl) (fun j hj => by simpa using hb j (by simp [hj]))
    refine ⟨fun hk => ?_, fun j hj => ?_⟩
    · simp only [List.mem_cons, not_or] at hk
      rw [setAll, h1 hk.2, List.getElem?_set_ne (Ne.symm hk.1)]
    · cases j with
      | zero =>
        simp only [List.getElem?_cons_zero, Option.some.injEq] at hj
        subst hj
        rw [setAll, h1 hn1, List.getElem?_set_self (hb i (by simp))]
        rfl
      | succ j =>
        simp only [List.getElem?_cons_succ] at hj ⊢
        rw [setAll, h2 j hj]
end Go.WL
namespace Go.WL

mutual
theorem pure_none : ∀ v : AV, v.pure = true → v.ids = [] ∧ v.rows = []
  | .st xs, h => pures_none xs (by simpa [AV.pure] using h)
  | .sl s xs m, h => by cases m <;> first | exact ⟨rfl, rfl⟩ | simp [AV.pure] at h
  | .pt id p, h => by simp [AV.pure] at h
  | .bs id p s off len cap, h => by simp [AV.pure] at h
  | .fn k caps, h => by simp [AV.pure] at h
  | .sc v, h => ⟨rfl, rfl⟩
  | .ar n s xs, h => ⟨rfl, rfl⟩
  | .rp v, h => ⟨rfl, rfl⟩
  | .tup xs, h => by simp [AV.pure] at h
theorem pures_none : ∀ xs : List AV, AV.pures xs = true → AV.idss xs = [] ∧ AV.rowss xs = []
  | [], _ => ⟨rfl, rfl⟩
  | x :: xs, h => by
    simp only [AV.pures, Bool.and_eq_true] at h
    obtain ⟨h1, h2⟩ := pure_none x h.1
    obtain ⟨h3, h4⟩ := pures_none xs h.2
    simp [AV.idss, AV.rowss, h1, h2, h3, h4]
end

theorem memb_not : ∀ (l : List Nat) (r : Nat), memb l r = false → r ∉ l
  | [], r, _ => by simp
  | x :: l, r, h => by
    unfold memb at h
    split at h
    · simp at h
    · rename_i e
      simp only [List.mem_cons, not_or]
      exact ⟨fun e' => by subst e'; simp at e, memb_not l r h⟩
theorem noDup_of : ∀ l : List Nat, noDup l = true → l.Nodup
  | [], _ => by simp
  | r :: l, h => by
    simp only [noDup, Bool.and_eq_true, Bool.not_eq_true'] at h
    exact List.nodup_cons.2 ⟨memb_not l r h.1, noDup_of l h.2⟩
theorem allMemb_of : ∀ (lv l : List Nat), allMemb lv l = true → ∀ r ∈ l, r ∈ lv
  | lv, [], _ => by simp
  | lv, x :: l, h => by
    simp only [allMemb, Bool.and_eq_true] at h
    intro r hr
    rcases List.mem_cons.1 hr with rfl | hr
    · exact memb_of lv _ h.1
    · exact allMemb_of lv l h.2 r hr
theorem allLt_of : ∀ (n : Nat) (l : List Nat), allLt n l = true → ∀ r ∈ l, r < n
  | n, [], _ => by simp
  | n, x :: l, h => by
    simp only [allLt, Bool.and_eq_true] at h
    intro r hr
    rcases List.mem_cons.1 hr with rfl | hr
    · exact Nat.le_of_ble_eq_true h.1
    · exact allLt_of n l h.2 r hr
theorem maxL_lt : ∀ (l : List Nat) (r : Nat), r ∈ l → r < maxL l
  | [], r, h => by simp at h
  | x :: l, r, h => by
    unfold maxL
    split
    · rename_i e
      have := Nat.le_of_ble_eq_true e
      rcases List.mem_cons.1 h with rfl | h
      · omega
      · exact maxL_lt l r h
    · rename_i e
      have : ¬ x + 1 ≤ maxL l := fun e' => by simp [Nat.ble_eq_true_of_le e'] at e
      rcases List.mem_cons.1 h with rfl | h
      · omega
      · have := maxL_lt l r h; omega
theorem dedup_spec : ∀ (l acc : List Nat), acc.Nodup → (dedup acc l).Nodup ∧ ∀ x, x ∈ dedup acc l ↔ x ∈ acc ∨ x ∈ l
  | [], acc, h => ⟨List.pairwise_reverse.2 (h.imp fun k => Ne.symm k), by simp [dedup]⟩
  | y :: l, acc, h => by
    unfold dedup
    split
    · rename_i e
      have := memb_of _ _ e
      obtain ⟨h1, h2⟩ := dedup_spec l acc h
      refine ⟨h1, fun x => ?_⟩
      rw [h2, List.mem_cons]
      constructor
      · rintro (k | k) <;> simp [k]
      · rintro (k | rfl | k)
        · exact .inl k
        · exact .inl this
        · exact .inr k
    · rename_i e
      have := memb_not _ _ e
      obtain ⟨h1, h2⟩ := dedup_spec l (y :: acc) (List.nodup_cons.2 ⟨this, h⟩)
      refine ⟨h1, fun x => ?_⟩
      rw [h2]
      simp only [List.mem_cons]
      constructor
      · rintro ((rfl | k) | k)
        · exact .inr (.inl rfl)
        · exact .inl k
        · exact .inr (.inr k)
      · rintro (k | rfl | k)
        · exact .inl (.inr k)
        · exact .inl (.inl rfl)
        · exact .inr k
theorem more_spec (bx : List (AV × Bool)) (ids : List Nat) (h : ids.Nodup) : (more bx ids).Nodup ∧ (∀ x, x ∈ ids → x ∈ more bx ids) ∧ ∀ x, x ∈ more bx ids → x ∈ ids ∨ ∃ cs, contents bx ids = some cs ∧ x ∈ AV.idss cs := by
  unfold more
  cases hc : contents bx ids with
  | none => exact ⟨h, fun x hx => hx, fun x hx => .inl hx⟩
  | some cs =>
    obtain ⟨d1, d2⟩ := dedup_spec (ids ++ AV.idss cs) [] (by simp)
    refine ⟨d1, fun x hx => (d2 x).2 (.inr (List.mem_append_left _ hx)), fun x hx => ?_⟩
    rcases (d2 x).1 hx with k | k
    · simp at k
    · rcases List.mem_append.1 k with k | k
      · exact .inl k
      · exact .inr ⟨cs, rfl, k⟩
theorem mem_remAll : ∀ (rs lv : List Nat) (x : Nat), x ∈ remAll lv rs ↔ x ∈ lv ∧ x ∉ rs
  | [], lv, x => by simp [remAll]
  | r :: rs, lv, x => by
    rw [remAll, mem_remAll rs (rem lv r) x, mem_rem]
    simp only [List.mem_cons, not_or]
    constructor
    · rintro ⟨⟨h1, h2⟩, h3⟩; exact ⟨h1, h2, h3⟩
    · rintro ⟨h1, h2, h3⟩; exact ⟨⟨h1, h2⟩, h3⟩
theorem remAll_sub : ∀ (rs lv : List Nat), (remAll lv rs).Sublist lv
  | [], lv => List.Sublist.refl _
  | r :: rs, lv => (remAll_sub rs (rem lv r)).trans (rem_sub lv r)
theorem fmap_inj {f : Nat → Option Nat} : ∀ (l : List Nat) (r r' b : Nat), (l.filterMap f).Nodup → r ∈ l → r' ∈ l → f r = some b → f r' = some b → r = r'
  | [], r, r', b, _, h, _, _, _ => by simp at h
  | x :: l, r, r', b, hn, h1, h2, h3, h4 => by
    by_cases e1 : r = x
    · by_cases e2 : r' = x
      · rw [e1, e2]
      · exfalso
        have h5 : r' ∈ l := by rcases List.mem_cons.1 h2 with h | h; exact absurd h e2; exact h
        subst e1
        rw [List.filterMap_cons_some h3] at hn
        exact (List.nodup_cons.1 hn).1 (List.mem_filterMap.2 ⟨r', h5, h4⟩)
    · by_cases e2 : r' = x
      · exfalso
        have h5 : r ∈ l := by rcases List.mem_cons.1 h1 with h | h; exact absurd h e1; exact h
        subst e2
        rw [List.filterMap_cons_some h4] at hn
        exact (List.nodup_cons.1 hn).1 (List.mem_filterMap.2 ⟨r, h5, h3⟩)
      · have h1 : r ∈ l := by rcases List.mem_cons.1 h1 with h | h; exact absurd h e1; exact h
        have h2 : r' ∈ l := by rcases List.mem_cons.1 h2 with h | h; exact absurd h e2; exact h
        refine fmap_inj l r r' b ?_ h1 h2 h3 h4
        cases hx : f x with
        | none => rwa [List.filterMap_cons_none hx] at hn
        | some y => rw [List.filterMap_cons_some hx] at hn; exact (List.nodup_cons.1 hn).2
theorem fmap_nodup {f : Nat → Option Nat} : ∀ l : List Nat, l.Nodup → (∀ r r' b, r ∈ l → r' ∈ l → f r = some b → f r' = some b → r = r') → (l.filterMap f).Nodup
  | [], _, _ => by simp
  | x :: l, hn, h => by
    obtain ⟨h1, h2⟩ := List.nodup_cons.1 hn
    have ih := fmap_nodup l h2 fun r r' b k1 k2 => h r r' b (List.mem_cons_of_mem _ k1) (List.mem_cons_of_mem _ k2)
    cases hx : f x with
    | none => rwa [List.filterMap_cons_none hx]
    | some y =>
      rw [List.filterMap_cons_some hx]
      refine List.nodup_cons.2 ⟨fun hm => ?_, ih⟩
      obtain ⟨r, hr, he⟩ := List.mem_filterMap.1 hm
      exact h1 ((h x r y (by simp) (List.mem_cons_of_mem _ hr) hx he) ▸ hr)

def Env.callee (E : Env) (ids rows : List Nat) : Env := ⟨E.w, E.lim, ids.map fun i => nthD E.bx i, fun k => E.row (nthD rows k), rows.length⟩

section
variable {D : Tabs} {E : Env} {bx : List (AV × Bool)} {lv ids rows : List Nat} {cs : List AV}

theorem callee_claims (hm : MSim D E bx lv) (hb : ∀ i ∈ ids, i < bx.length) : claims (E.callee ids rows) (List.range rows.length) = ids.map (fun i => nthD E.bx i) ++ rows.filterMap (rowBlk E) := by
  unfold claims
  congr 1
  have : rows = (List.range rows.length).map fun k => nthD rows k := by
    apply List.ext_getElem?
    intro i
    by_cases hi : i < rows.length
    · rw [nthD_at hi, List.getElem?_map, List.getElem?_range hi]; rfl
    · rw [List.getElem?_eq_none (by omega), List.getElem?_eq_none (by simp; omega)]
  conv => rhs; rw [this]
  rw [List.filterMap_map]
  rfl

/-- What is handed over is a memory of its own. -/
theorem callee_ok (hm : MSim D E bx lv) (hc : contents bx ids = some cs) (hn : ids.Nodup) (hr : ∀ q ∈ AV.rowss cs, q ∈ rows) (hrl : ∀ r ∈ rows, r ∈ lv) (hrn : rows.Nodup) (hid : ∀ i ∈ AV.idss cs, i ∈ ids) :
    Tr E (E.callee ids rows) (shsOf bx) (shsOf (boxesOf (AV.rens (fun i => posOf ids i 0) (fun k => posOf rows k 0) cs))) (fun i => posOf ids i 0) (fun k => posOf rows k 0) ids rows ∧
    MSim D (E.callee ids rows) (boxesOf (AV.rens (fun i => posOf ids i 0) (fun k => posOf rows k 0) cs)) (List.range rows.length) ∧ (∀ i ∈ ids, i < bx.length) := by
  obtain ⟨hl, hat⟩ := contents_at bx ids cs hc
  have hb : ∀ i ∈ ids, i < bx.length := by
    intro i hi
    obtain ⟨j, hj, he⟩ := List.getElem_of_mem hi
    obtain ⟨c, _, h2⟩ := hat j i (by rw [List.getElem?_eq_getElem hj, he])
    exact (List.getElem?_eq_some_iff.1 h2).1
  have hbx : ∀ i ∈ ids, E.bx[i]? = some (nthD E.bx i) := fun i hi => nthD_at (by rw [hm.bxl]; exact hb i hi)
  have t : Tr E (E.callee ids rows) (shsOf bx) (shsOf (boxesOf (AV.rens (fun i => posOf ids i 0) (fun k => posOf rows k 0) cs))) (fun i => posOf ids i 0) (fun k => posOf rows k 0) ids rows := by
    refine ⟨Ext.refl _ _, fun i hi => ⟨fun b hbi => ?_, fun s hs => ?_⟩, fun r hr' hlt => ?_⟩
    · obtain ⟨h1, _⟩ := posOf_at hi
      simp only [Env.callee, List.getElem?_map, h1, Option.map_some]
      rw [← hbx i hi, hbi]
    · obtain ⟨h1, _⟩ := posOf_at hi
      obtain ⟨c, h2, h3⟩ := hat _ _ h1
      rw [shsOf_boxes, rens_map, List.map_map, List.getElem?_map, h2]
      simp only [shsOf, List.getElem?_map, h3, Option.map_some, Option.some.injEq] at hs
      simp [shape_ren, hs]
    · obtain ⟨h1, h2⟩ := posOf_at hr'
      refine ⟨h2, .inr ⟨?_, fun b hb cs ty fz hc => ⟨rfl, cs, ty, fz, hc, Nat.le_refl _⟩⟩⟩
      have h3 := nthD_at h2
      rw [h1] at h3
      simp only [Env.callee]
      rw [← Option.some.inj h3]
  refine ⟨t, ?_, hb⟩
  refine ⟨?_, fun j c f b h1 h2 => ?_, fun k hk => ?_, ?_, hm.lim, hm.glob⟩
  · simp [Env.callee, boxesOf, rens_map, hl]
  · simp only [boxesOf, rens_map, List.map_map, List.getElem?_map] at h1
    cases hcj : cs[j]? with
    | none => simp [hcj] at h1
    | some c0 =>
      have hj : j < ids.length := by rw [← hl]; exact (List.getElem?_eq_some_iff.1 hcj).1
      obtain ⟨c1, h3, h4⟩ := hat j ids[j] (List.getElem?_eq_getElem hj)
      rw [hcj, Option.some.injEq] at h3
      subst h3
      simp only [hcj, Option.map_some, Function.comp_apply, Option.some.injEq, Prod.mk.injEq] at h1
      obtain ⟨rfl, rfl⟩ := h1
      have hji : ids[j] ∈ ids := List.getElem_mem hj
      simp only [Env.callee, List.getElem?_map, List.getElem?_eq_getElem hj, Option.map_some, Option.some.injEq] at h2
      subst h2
      obtain ⟨cells, ty, fz, g1, g2, g3, _, g5⟩ := hm.box ids[j] c0 false _ h4 (hbx _ hji)
      refine ⟨cells, ty, fz, g1, g2, IR_tr c0 _ (t.mono (fun i hi => hid i ?_) (fun r hr' => hr r ?_)) g3, fun e => by simp at e, fun _ => g5 rfl⟩
      · have : c0 ∈ cs := List.mem_of_getElem? hcj
        clear h4 g3 g5 hat hc hl hr hrl hid hcj t
        induction cs with
        | nil => simp at this
        | cons x xs ih => simp only [AV.idss, List.mem_append]; rcases List.mem_cons.1 this with rfl | h; exact .inl hi; exact .inr (ih h)
      · have : c0 ∈ cs := List.mem_of_getElem? hcj
        clear h4 g3 g5 hat hc hl hr hrl hid hcj t
        induction cs with
        | nil => simp at this
        | cons x xs ih => simp only [AV.rowss, List.mem_append]; rcases List.mem_cons.1 this with rfl | h; exact .inl hr'; exact .inr (ih h)
  · have hk' : k < rows.length := List.mem_range.1 hk
    have hm' : nthD rows k ∈ rows := List.mem_of_getElem? (nthD_at hk')
    obtain ⟨g1, g2, g3⟩ := hm.row _ (hrl _ hm')
    exact ⟨hk', g2, g3⟩
  · rw [callee_claims hm hb]
    obtain ⟨k1, k2, k3⟩ := List.nodup_append.1 hm.nodup
    refine List.nodup_append.2 ⟨?_, ?_, ?_⟩
    · refine List.pairwise_map.2 (hn.imp_of_mem fun {i j} hi hj hne => ?_)
      intro e
      have e1 := hbx i hi
      have e2 := hbx j hj
      obtain ⟨l1, e1⟩ := List.getElem?_eq_some_iff.1 e1
      obtain ⟨l2, e2⟩ := List.getElem?_eq_some_iff.1 e2
      exact hne ((List.getElem_inj k1).1 (e1.trans (e.trans e2.symm)))
    · exact fmap_nodup rows hrn fun r r' b h1 h2 => fmap_inj lv r r' b k2 (hrl r h1) (hrl r' h2)
    · intro x hx y hy
      obtain ⟨i, hi, rfl⟩ := List.mem_map.1 hx
      obtain ⟨r, hr', he⟩ := List.mem_filterMap.1 hy
      exact k3 _ (List.mem_of_getElem? (hbx i hi)) _ (List.mem_filterMap.2 ⟨r, hrl r hr', he⟩)

theorem callee_sub (hm : MSim D E bx lv) (hb : ∀ i ∈ ids, i < bx.length) (hrl : ∀ r ∈ rows, r ∈ lv) {b : Nat} (h : b ∈ claims (E.callee ids rows) (List.range rows.length)) : b ∈ claims E lv := by
  rw [callee_claims hm hb] at h
  rcases List.mem_append.1 h with h | h
  · obtain ⟨i, hi, rfl⟩ := List.mem_map.1 h
    exact List.mem_append_left _ (List.mem_of_getElem? (nthD_at (by rw [hm.bxl]; exact hb i hi)))
  · obtain ⟨r, hr, he⟩ := List.mem_filterMap.1 h
    exact List.mem_append_right _ (List.mem_filterMap.2 ⟨r, hrl r hr, he⟩)
end
end Go.WL
namespace Go.WL

def Env.back (E E2 : Env) (n : Nat) (lv : List Nat) (top : Nat) : Env := ⟨E2.w, E2.lim, E.bx ++ E2.bx.drop n, fun q => if q < E.nx then (if q ∈ lv then E.row q else .dead) else E2.row (q - E.nx), E.nx + top⟩
/-- The caller's name of a callee's box. -/
def outer (ids : List Nat) (n : Nat) : Nat → Nat := fun i => match Nat.blt i ids.length with | true => nthD ids i | false => n + (i - ids.length)
theorem outer_lt {ids : List Nat} {n i : Nat} (h : i < ids.length) : outer ids n i = nthD ids i := by
  unfold outer
  rw [show Nat.blt i ids.length = true from Nat.ble_eq_true_of_le h]
theorem outer_ge {ids : List Nat} {n i : Nat} (h : ids.length ≤ i) : outer ids n i = n + (i - ids.length) := by
  unfold outer
  cases hb : Nat.blt i ids.length with
  | false => rfl
  | true => have := Nat.le_of_ble_eq_true (show Nat.ble (i + 1) ids.length = true from hb); omega
def backB (bx : List (AV × Bool)) (ids : List Nat) (st : List AV) : List (AV × Bool) := setAll bx ids (st.take ids.length) ++ (st.drop ids.length).map fun c => (c, false)

theorem fmap_congr {f g : Nat → Option Nat} : ∀ (l : List Nat), (∀ x ∈ l, f x = g x) → l.filterMap f = l.filterMap g
  | [], _ => rfl
  | x :: l, h => by
    have h1 := h x (by simp)
    have h2 := fmap_congr l fun y hy => h y (List.mem_cons_of_mem _ hy)
    simp only [List.filterMap_cons, h1, h2]
theorem idss_mem : ∀ {xs : List AV} {x : AV} {i : Nat}, x ∈ xs → i ∈ x.ids → i ∈ AV.idss xs
  | [], _, _, h, _ => by simp at h
  | y :: ys, x, i, h, hi => by
    simp only [AV.idss, List.mem_append]
    rcases List.mem_cons.1 h with rfl | h
    · exact .inl hi
    · exact .inr (idss_mem h hi)
theorem rowss_mem : ∀ {xs : List AV} {x : AV} {i : Nat}, x ∈ xs → i ∈ x.rows → i ∈ AV.rowss xs
  | [], _, _, h, _ => by simp at h
  | y :: ys, x, i, h, hi => by
    simp only [AV.rowss, List.mem_append]
    rcases List.mem_cons.1 h with rfl | h
    · exact .inl hi
    · exact .inr (rowss_mem h hi)

section
variable {D : Tabs} {B : Base} {E E2 : Env} {bx : List (AV × Bool)} {lv ids rows : List Nat} {cs st : List AV} {nt nx : Nat} {tm : List (Nat × AV)} {tmps : Array Value} {r : AV} {v : Value}

theorem back_ok (h : Sim D B E ⟨nt, tm, ⟨bx, lv, nx⟩⟩ tmps) (hc : contents bx ids = some cs) (hn : ids.Nodup) (hr : rows = AV.rowss cs) (hrl : ∀ r ∈ rows, r ∈ lv) (hrn : rows.Nodup) (hid : ∀ i ∈ AV.idss cs, i ∈ ids)
    (h2 : MSim D E2 (boxesOf st) (AV.rows r ++ AV.rowss st)) (hrep : Rep E2 (shsOf (boxesOf st)) r v)
    (hf : FrameB ⟨E.w, E.lim, fun b => b ∈ claims (E.callee ids rows) (List.range rows.length), (E.callee ids rows).bx, cs.map AV.shape⟩ E2 (claims E2 (AV.rows r ++ AV.rowss st)))
    (hsh : cs.map AV.shape <+: st.map AV.shape) (hRn : (AV.rows r ++ AV.rowss st).Nodup) (hlt : ∀ i ∈ AV.ids r ++ AV.idss st, i < st.length) :
    ∃ E3, E3.w = E2.w ∧ Sim D B E3 ⟨nt, tm, ⟨backB bx ids (AV.rens (outer ids bx.length) (fun k => nx + k) st), (AV.rows r ++ AV.rowss st).map (fun k => nx + k) ++ remAll lv rows, nx + maxL (AV.rows r ++ AV.rowss st)⟩⟩ tmps ∧
      Rep E3 (shsOf (backB bx ids (AV.rens (outer ids bx.length) (fun k => nx + k) st))) (r.ren (outer ids bx.length) (fun k => nx + k)) v := by
  have hm := h.m
  simp only at hm
  obtain ⟨t1, _, hb⟩ := callee_ok hm hc hn (fun q hq => hr ▸ hq) hrl hrn hid
  obtain ⟨hl, hat⟩ := contents_at bx ids cs hc
  have hnx : E.nx = nx := h.nx
  have hbxl : E.bx.length = bx.length := hm.bxl
  have hbx : ∀ i ∈ ids, E.bx[i]? = some (nthD E.bx i) := fun i hi => nthD_at (by rw [hbxl]; exact hb i hi)
  generalize hR : AV.rows r ++ AV.rowss st = R at *
  generalize hst2 : AV.rens (outer ids bx.length) (fun k => nx + k) st = st2
  have hst2l : st2.length = st.length := by rw [← hst2, rens_map]; simp
  have hst2a : ∀ j (c : AV), st[j]? = some c → st2[j]? = some (c.ren (outer ids bx.length) (fun k => nx + k)) := fun j c hj => by rw [← hst2, rens_map, List.getElem?_map, hj]; rfl
  have hnst : ids.length ≤ st.length := by have := hsh.length_le; simpa [hl] using this
  have hE2l : E2.bx.length = st.length := by rw [h2.bxl]; simp [boxesOf]
  obtain ⟨rest, hpre⟩ := hf.pre
  have hpre : (E.callee ids rows).bx ++ rest = E2.bx := hpre
  have hcl : (E.callee ids rows).bx.length = ids.length := by simp [Env.callee]
  have hE2c : ∀ j, j < ids.length → E2.bx[j]? = some (nthD E.bx (nthD ids j)) := by
    intro j hj
    rw [← hpre, List.getElem?_append_left (by omega)]
    simp only [Env.callee, List.getElem?_map, nthD_at hj, Option.map_some]
  have hsize : E.w.heap.size ≤ E2.w.heap.size := hf.size
  have hsetl : (setAll bx ids (st2.take ids.length)).length = bx.length := setAll_len _ _ _
  have htl : ids.length = (st2.take ids.length).length := by simp; omega
  -- where each box is
  have hposB : ∀ (j : Nat) (c : AV), st2[j]? = some c → (backB bx ids st2)[outer ids bx.length j]? = some (c, false) := by
    intro j c hj
    unfold backB
    by_cases hjn : j < ids.length
    · rw [outer_lt hjn]
      have hi := List.mem_of_getElem? (nthD_at hjn)
      rw [List.getElem?_append_left (by rw [hsetl]; exact hb _ hi), (setAll_at ids _ bx (nthD ids j) hn htl hb).2 j (nthD_at hjn), List.getElem?_take_of_lt hjn, hj]
      rfl
    · rw [outer_ge (by omega), List.getElem?_append_right (by omega), hsetl, Nat.add_sub_cancel_left, List.getElem?_map, List.getElem?_drop, show ids.length + (j - ids.length) = j by omega, hj]
      rfl
  have hposE : ∀ (j b : Nat), E2.bx[j]? = some b → (E.bx ++ E2.bx.drop ids.length)[outer ids bx.length j]? = some b := by
    intro j b hj
    by_cases hjn : j < ids.length
    · have hi := List.mem_of_getElem? (nthD_at hjn)
      rw [outer_lt hjn, List.getElem?_append_left (by rw [hbxl]; exact hb _ hi), hbx _ hi, ← hE2c j hjn, hj]
    · rw [outer_ge (by omega), List.getElem?_append_right (by omega), hbxl, Nat.add_sub_cancel_left, List.getElem?_drop, show ids.length + (j - ids.length) = j by omega, hj]
  have hback : ∀ (k : Nat) (c : AV) (f : Bool), (backB bx ids st2)[k]? = some (c, f) → (k < bx.length ∧ k ∉ ids ∧ bx[k]? = some (c, f)) ∨ ∃ j, k = outer ids bx.length j ∧ st2[j]? = some c ∧ f = false := by
    intro k c f hk
    unfold backB at hk
    by_cases hkn : k < bx.length
    · rw [List.getElem?_append_left (by omega)] at hk
      by_cases hki : k ∈ ids
      · right
        obtain ⟨j, hj, he⟩ := List.getElem_of_mem hki
        have he' : ids[j]? = some k := by rw [List.getElem?_eq_getElem hj, he]
        rw [(setAll_at ids _ bx k hn htl hb).2 j he', List.getElem?_take_of_lt hj] at hk
        cases hs : st2[j]? with
        | none => simp [hs] at hk
        | some x =>
          simp only [hs, Option.map_some, Option.some.injEq, Prod.mk.injEq] at hk
          obtain ⟨rfl, rfl⟩ := hk
          refine ⟨j, ?_, hs, rfl⟩
          rw [outer_lt hj]
          have := nthD_at hj
          rw [he'] at this
          exact Option.some.inj this
      · left
        rw [(setAll_at ids _ bx k hn htl hb).1 hki] at hk
        exact ⟨hkn, hki, hk⟩
    · right
      rw [List.getElem?_append_right (by omega), hsetl, List.getElem?_map, List.getElem?_drop] at hk
      cases hs : st2[ids.length + (k - bx.length)]? with
      | none => simp [hs] at hk
      | some x =>
        simp only [hs, Option.map_some, Option.some.injEq, Prod.mk.injEq] at hk
        obtain ⟨rfl, rfl⟩ := hk
        refine ⟨_, ?_, hs, rfl⟩
        rw [outer_ge (by omega)]
        omega
  have hshold : ∀ (i : Nat) (s : Shape), (shsOf bx)[i]? = some s → (shsOf (backB bx ids st2))[i]? = some s := by
    intro i s hs
    have hi : i < bx.length := by have := (List.getElem?_eq_some_iff.1 hs).1; simpa [shsOf] using this
    by_cases hki : i ∈ ids
    · obtain ⟨j, hj, he⟩ := List.getElem_of_mem hki
      have he' : ids[j]? = some i := by rw [List.getElem?_eq_getElem hj, he]
      obtain ⟨c, hc1, hc2⟩ := hat j i he'
      simp only [shsOf, List.getElem?_map, hc2, Option.map_some, Option.some.injEq] at hs
      obtain ⟨rst, hpre2⟩ := hsh
      have hsj : (st.map AV.shape)[j]? = some c.shape := by
        rw [← hpre2, List.getElem?_append_left (by simp; omega), List.getElem?_map, hc1]; rfl
      rw [List.getElem?_map] at hsj
      cases hstj : st[j]? with
      | none => simp [hstj] at hsj
      | some x =>
        simp only [hstj, Option.map_some, Option.some.injEq] at hsj
        have h3 := hposB j _ (hst2a j x hstj)
        rw [outer_lt hj] at h3
        have h4 := nthD_at hj
        rw [he', Option.some.injEq] at h4
        rw [← h4] at h3
        simp only [shsOf, List.getElem?_map, h3, Option.map_some, shape_ren, hsj, hs]
    · simp only [shsOf, List.getElem?_map] at hs ⊢
      unfold backB
      rw [List.getElem?_append_left (by omega), (setAll_at ids _ bx i hn htl hb).1 hki]
      exact hs
  have hpreS : shsOf bx <+: shsOf (backB bx ids st2) := by
    refine List.prefix_iff_eq_take.2 (List.ext_getElem? fun i => ?_)
    by_cases hi : i < (shsOf bx).length
    · rw [List.getElem?_take_of_lt hi, List.getElem?_eq_getElem hi]
      exact (hshold i _ (List.getElem?_eq_getElem hi)).symm
    · rw [List.getElem?_eq_none (by omega), List.getElem?_eq_none (by simp; omega)]
  -- blocks
  have hown : ∀ b, b ∈ claims (E.callee ids rows) (List.range rows.length) → b ∈ claims E lv := fun b => callee_sub hm hb hrl
  have hcc := callee_claims (E := E) (ids := ids) (rows := rows) hm hb
  obtain ⟨k1, k2, k3⟩ := List.nodup_append.1 hm.nodup
  have notB : ∀ (i b : Nat), E.bx[i]? = some b → i ∉ ids → b ∉ claims (E.callee ids rows) (List.range rows.length) := by
    intro i b hi hni hbm
    rw [hcc] at hbm
    rcases List.mem_append.1 hbm with hbm | hbm
    · obtain ⟨i', hi', rfl⟩ := List.mem_map.1 hbm
      obtain ⟨l1, e1⟩ := List.getElem?_eq_some_iff.1 hi
      obtain ⟨l2, e2⟩ := List.getElem?_eq_some_iff.1 (hbx i' hi')
      have := (List.getElem_inj k1).1 (e1.trans e2.symm)
      exact hni (this ▸ hi')
    · obtain ⟨q, hq, he⟩ := List.mem_filterMap.1 hbm
      exact k3 b (List.mem_of_getElem? hi) b (List.mem_filterMap.2 ⟨q, hrl q hq, he⟩) rfl
  have notR : ∀ (q b : Nat), q ∈ remAll lv rows → rowBlk E q = some b → b ∉ claims (E.callee ids rows) (List.range rows.length) := by
    intro q b hq hqb hbm
    obtain ⟨hq1, hq2⟩ := (mem_remAll rows lv q).1 hq
    rw [hcc] at hbm
    rcases List.mem_append.1 hbm with hbm | hbm
    · obtain ⟨i', hi', rfl⟩ := List.mem_map.1 hbm
      exact k3 _ (List.mem_of_getElem? (hbx i' hi')) _ (List.mem_filterMap.2 ⟨q, hq1, hqb⟩) rfl
    · obtain ⟨q', hq', he⟩ := List.mem_filterMap.1 hbm
      exact hq2 ((fmap_inj lv q q' b k2 hq1 (hrl q' hq') hqb he) ▸ hq')
  have rowB : ∀ (q b : Nat), E.row q = .grow b → rowBlk E q = some b := fun q b hq => by unfold rowBlk; rw [hq]; rfl
  have hrowlt : ∀ q ∈ lv, q < E.nx := fun q hq => (hm.row q hq).1
  generalize hE3 : E.back E2 ids.length (remAll lv rows) (maxL R) = E3
  have e3w : E3.w = E2.w := by rw [← hE3]; rfl
  have e3l : E3.lim = E2.lim := by rw [← hE3]; rfl
  have e3b : E3.bx = E.bx ++ E2.bx.drop ids.length := by rw [← hE3]; rfl
  have e3n : E3.nx = E.nx + maxL R := by rw [← hE3]; rfl
  have e3o : ∀ q, q < E.nx → E3.row q = if q ∈ remAll lv rows then E.row q else .dead := fun q hq => by rw [← hE3]; simp [Env.back, hq]
  have e3c : ∀ k, E3.row (nx + k) = E2.row k := fun k => by
    rw [← hE3]
    simp only [Env.back, hnx]
    rw [if_neg (by omega), Nat.add_sub_cancel_left]
  have hext : Ext E.w E.lim E3.w E3.lim := by rw [e3w, e3l]; exact hf.ext
  have same : ∀ b, b ∈ claims E lv → b ∉ claims (E.callee ids rows) (List.range rows.length) → E3.w.heap[b]? = E.w.heap[b]? ∧ E3.lim b = E.lim b := by
    intro b hbm hbn
    rw [e3w, e3l]
    exact hf.same b (hm.lt hbm).lt hbn
  have t : TrA E E3 (shsOf bx) (shsOf (backB bx ids st2)) := by
    refine ⟨hext, fun i b hi => ?_, hshold, fun q hq => ⟨by omega, ?_⟩⟩
    · rw [e3b, List.getElem?_append_left (List.getElem?_eq_some_iff.1 hi).1]; exact hi
    · rw [e3o q hq]
      split
      · rename_i hql
        refine .inr ⟨rfl, fun b hqb cells ty fz hcb => ?_⟩
        obtain ⟨s1, s2⟩ := same b (List.mem_append_right _ (List.mem_filterMap.2 ⟨q, ((mem_remAll rows lv q).1 hql).1, rowB q b hqb⟩)) (notR q b hql (rowB q b hqb))
        exact ⟨s2, cells, ty, fz, s1.trans hcb, Nat.le_refl _⟩
      · exact .inl rfl
  have t2 : Tr E2 E3 (shsOf (boxesOf st)) (shsOf (backB bx ids st2)) (outer ids bx.length) (fun k => nx + k) (AV.ids r ++ AV.idss st) R := by
    refine ⟨by rw [e3w, e3l]; exact Ext.refl _ _, fun i hi => ⟨fun b hib => ?_, fun s his => ?_⟩, fun k hk _ => ⟨?_, .inr ⟨e3c k, fun b _ cells ty fz hcb => ?_⟩⟩⟩
    · rw [e3b]; exact hposE i b hib
    · have hlt' : i < st.length := hlt i hi
      have h3 := hposB i _ (hst2a i _ (List.getElem?_eq_getElem hlt'))
      simp only [shsOf, List.getElem?_map, h3, Option.map_some, shape_ren]
      simp only [shsOf, boxesOf, List.getElem?_map, List.getElem?_eq_getElem hlt', Option.map_some] at his
      exact his
    · have := maxL_lt R k hk
      omega
    · rw [e3l]; exact ⟨rfl, cells, ty, fz, by rw [e3w]; exact hcb, Nat.le_refl _⟩
  have clR : (R.map fun k => nx + k).filterMap (rowBlk E3) = R.filterMap (rowBlk E2) := by
    rw [List.filterMap_map]
    congr 1
    funext k
    simp only [Function.comp_apply, rowBlk, e3c]
  have clL : (remAll lv rows).filterMap (rowBlk E3) = (remAll lv rows).filterMap (rowBlk E) := by
    refine fmap_congr _ fun q hq => ?_
    have hql := hrowlt q ((mem_remAll rows lv q).1 hq).1
    simp only [rowBlk, e3o q hql, if_pos hq]
  have hcl3 : claims E3 (R.map (fun k => nx + k) ++ remAll lv rows) = (E.bx ++ E2.bx.drop ids.length) ++ (R.filterMap (rowBlk E2) ++ (remAll lv rows).filterMap (rowBlk E)) := by
    unfold claims
    rw [e3b, List.filterMap_append, clR, clL]
  -- a claim of the callee's is old only if it was handed over
  have hcle : ∀ b ∈ claims E2 R, b < E.w.heap.size → b ∈ claims (E.callee ids rows) (List.range rows.length) := hf.cl
  have hE2split : E2.bx = (E.callee ids rows).bx ++ E2.bx.drop ids.length := by
    rw [← hpre, ← hcl, List.drop_left]
  have hnd2 := h2.nodup
  unfold claims at hnd2
  obtain ⟨n1, n2, n3⟩ := List.nodup_append.1 hnd2
  rw [hE2split] at n1
  obtain ⟨n4, n5, n6⟩ := List.nodup_append.1 n1
  have newN : ∀ b, (b ∈ E2.bx.drop ids.length ∨ b ∈ R.filterMap (rowBlk E2)) → b ∉ E.bx ∧ b ∉ (remAll lv rows).filterMap (rowBlk E) := by
    intro b hbn
    have hb2 : b ∈ claims E2 R := by
      rcases hbn with hbn | hbn
      · exact List.mem_append_left _ (List.mem_of_mem_drop hbn)
      · exact List.mem_append_right _ hbn
    refine ⟨fun hbE => ?_, fun hbE => ?_⟩
    · have hlt' := (hm.lt (List.mem_append_left (as := E.bx) (lv.filterMap (rowBlk E)) hbE)).lt
      have hbc := hcle b hb2 hlt'
      rw [hcc] at hbc
      rcases List.mem_append.1 hbc with hbc | hbc
      · rcases hbn with hbn | hbn
        · exact n6 b hbc b hbn rfl
        · exact n3 b (by rw [hE2split]; exact List.mem_append_left _ hbc) b hbn rfl
      · obtain ⟨q, hq, he⟩ := List.mem_filterMap.1 hbc
        exact k3 b hbE b (List.mem_filterMap.2 ⟨q, hrl q hq, he⟩) rfl
    · obtain ⟨q, hq, he⟩ := List.mem_filterMap.1 hbE
      have hlt' := (hm.lt (List.mem_append_right E.bx (List.mem_filterMap.2 ⟨q, ((mem_remAll rows lv q).1 hq).1, he⟩))).lt
      exact notR q b hq he (hcle b hb2 hlt')
  refine ⟨E3, e3w, Sim.move (m := ⟨bx, lv, nx⟩) (m' := ⟨_, _, _⟩) h t ?_ ?_ (by rw [e3n, hnx]) (h.shp.trans hpreS), ?_⟩
  · refine ⟨?_, fun k c f b hk1 hk2 => ?_, fun q hq => ?_, ?_, ?_, ?_⟩
    · rw [e3b]; simp only [backB, List.length_append, hsetl, List.length_map, List.length_drop, hst2l, hE2l, hbxl]
    · rcases hback k c f hk1 with ⟨hkn, hki, hk⟩ | ⟨j, rfl, hj, rfl⟩
      · rw [e3b, List.getElem?_append_left (by omega)] at hk2
        obtain ⟨cells, ty, fz, g1, g2, g3, g4, g5⟩ := hm.box k c f b hk hk2
        obtain ⟨s1, s2⟩ := same b (List.mem_append_left _ (List.mem_of_getElem? hk2)) (notB k b hk2 hki)
        exact ⟨cells, ty, fz, s1.trans g1, g2, t.ir g3, fun e => ⟨(g4 e).1, s2.trans (g4 e).2⟩, fun e => s2.trans (g5 e)⟩
      · cases hsj : st[j]? with
        | none =>
          have := List.getElem?_eq_none_iff.1 hsj
          have := (List.getElem?_eq_some_iff.1 hj).1
          omega
        | some x =>
          have hxx := hst2a j x hsj
          rw [hj, Option.some.injEq] at hxx
          subst hxx
          have hjl : j < E2.bx.length := by rw [hE2l]; exact (List.getElem?_eq_some_iff.1 hsj).1
          have hpE := hposE j _ (List.getElem?_eq_getElem hjl)
          rw [e3b, hpE, Option.some.injEq] at hk2
          subst hk2
          obtain ⟨cells, ty, fz, g1, g2, g3, g4, g5⟩ := h2.box j x false _ (by simp [boxesOf, hsj]) (List.getElem?_eq_getElem hjl)
          have hxm : x ∈ st := List.mem_of_getElem? hsj
          refine ⟨cells, ty, fz, by rw [e3w]; exact g1, g2, IR_tr x _ (t2.mono (fun i hi => List.mem_append_right _ ?_) (fun q hq => ?_)) g3, fun e => by simp at e, fun _ => by rw [e3l]; exact g5 rfl⟩
          · exact idss_mem hxm hi
          · rw [← hR]
            exact List.mem_append_right _ (rowss_mem hxm hq)
    · rcases List.mem_append.1 hq with hq | hq
      · obtain ⟨k, hk, rfl⟩ := List.mem_map.1 hq
        obtain ⟨_, g2, g3⟩ := h2.row k hk
        have := maxL_lt R k hk
        refine ⟨by rw [e3n]; omega, by rw [e3c]; exact g2, fun b hb' => ?_⟩
        rw [e3c] at hb'
        rw [e3w]
        exact g3 b hb'
      · have hq1 := ((mem_remAll rows lv q).1 hq).1
        obtain ⟨g1, g2, g3⟩ := hm.row q hq1
        refine ⟨by rw [e3n]; omega, by rw [e3o q g1, if_pos hq]; exact g2, fun b hb' => ?_⟩
        rw [e3o q g1, if_pos hq] at hb'
        obtain ⟨cells, ty, fz, p1, p2⟩ := g3 b hb'
        exact ⟨cells, ty, fz, (same b (List.mem_append_right _ (List.mem_filterMap.2 ⟨q, hq1, rowB q b hb'⟩)) (notR q b hq (rowB q b hb'))).1.trans p1, p2⟩
    · simp only
      rw [hcl3]
      refine List.nodup_append.2 ⟨List.nodup_append.2 ⟨k1, n5, fun x hx y hy e => (newN y (.inl hy)).1 (e ▸ hx)⟩, List.nodup_append.2 ⟨n2, ?_, fun x hx y hy e => (newN x (.inr hx)).2 (e ▸ hy)⟩, fun x hx y hy e => ?_⟩
      · exact k2.sublist ((remAll_sub rows lv).filterMap _)
      · subst e
        rcases List.mem_append.1 hx with hx | hx <;> rcases List.mem_append.1 hy with hy | hy
        · exact (newN x (.inr hy)).1 hx
        · obtain ⟨q, hq, he⟩ := List.mem_filterMap.1 hy
          exact k3 x hx x (List.mem_filterMap.2 ⟨q, ((mem_remAll rows lv q).1 hq).1, he⟩) rfl
        · exact n3 x (List.mem_of_mem_drop hx) x hy rfl
        · exact (newN x (.inl hx)).2 hy
    · rw [e3w, e3l]; exact h2.lim
    · rw [e3w, e3l]; exact h2.glob
  · have hfb := h.fb
    refine ⟨by rw [e3w]; exact hf.os.trans hfb.os, by rw [e3w]; exact hf.tape.trans hfb.tape, by rw [e3w]; exact hf.output.trans hfb.output, by rw [e3w]; exact Nat.le_trans hfb.size hsize, hfb.ext.trans hext, fun b hb1 hb2 => ?_, fun b hb1 hb2 => ?_, ?_⟩
    · have hbn : b ∉ claims E lv := fun hh => hb2 (hfb.cl b hh hb1)
      have s := hf.same b (Nat.lt_of_lt_of_le hb1 hfb.size) fun hh => hbn (hown b hh)
      have s0 := hfb.same b hb1 hb2
      rw [e3w, e3l]
      exact ⟨s.1.trans s0.1, s.2.trans s0.2⟩
    · simp only at hb1
      rw [hcl3] at hb1
      have old : ∀ b, b ∈ claims E lv → b < B.w.heap.size → B.own b := hfb.cl
      rcases List.mem_append.1 hb1 with hb1 | hb1 <;> rcases List.mem_append.1 hb1 with hb1 | hb1
      · exact old b (List.mem_append_left _ hb1) hb2
      · exact old b (hown b (hcle b (List.mem_append_left _ (List.mem_of_mem_drop hb1)) (Nat.lt_of_lt_of_le hb2 hfb.size))) hb2
      · exact old b (hown b (hcle b (List.mem_append_right _ hb1) (Nat.lt_of_lt_of_le hb2 hfb.size))) hb2
      · exact old b (List.mem_append_right _ (((remAll_sub rows lv).filterMap _).subset hb1)) hb2
    · rw [e3b]; exact hfb.pre.trans (List.prefix_append _ _)
  · exact Rep_tr (t2.mono (fun i hi => List.mem_append_left _ hi) (fun q hq => by rw [← hR]; exact List.mem_append_left _ hq)) hrep
end
end Go.WL
namespace Go.WL

theorem TrA.trans {E E1 E2 : Env} {s s1 s2 : List Shape} (h : TrA E E1 s s1) (k : TrA E1 E2 s1 s2) : TrA E E2 s s2 := by
  refine ⟨h.ext.trans k.ext, fun i b hb => k.bx i b (h.bx i b hb), fun i t ht => k.sh i t (h.sh i t ht), fun r hr => ?_⟩
  obtain ⟨h1, h2⟩ := h.row r hr
  obtain ⟨k1, k2⟩ := k.row r h1
  refine ⟨k1, ?_⟩
  rcases k2 with k2 | ⟨k2, k3⟩
  · exact .inl k2
  · rcases h2 with h2 | ⟨h2, h3⟩
    · exact .inl (k2.trans h2)
    · refine .inr ⟨k2.trans h2, fun b hb cs ty fz hc => ?_⟩
      obtain ⟨e1, cs', ty', fz', e2, e3⟩ := h3 b hb cs ty fz hc
      obtain ⟨e4, cs2, ty2, fz2, e5, e6⟩ := k3 b (h2.trans hb) cs' ty' fz' e2
      exact ⟨e4.trans e1, cs2, ty2, fz2, e5, by omega⟩
theorem TrA.refl (E : Env) (s : List Shape) : TrA E E s s := ⟨Ext.refl _ _, fun _ _ h => h, fun _ _ h => h, fun r hr => ⟨hr, .inr ⟨rfl, fun b hb cs ty fz hc => ⟨rfl, cs, ty, fz, hc, Nat.le_refl _⟩⟩⟩⟩

mutual
theorem ren_none (f g : Nat → Nat) : ∀ v : AV, v.ids = [] → v.rows = [] → v.ren f g = v
  | .st xs, h1, h2 => by simp only [AV.ren, rens_none f g xs (by simpa [AV.ids] using h1) (by simpa [AV.rows] using h2)]
  | .sl s xs m, h1, h2 => by cases m <;> first | rfl | simp [AV.rows] at h2
  | .pt id p, h1, h2 => by simp [AV.ids] at h1
  | .bs id p s off len cap, h1, h2 => by simp [AV.ids] at h1
  | .fn k caps, h1, h2 => by simp only [AV.ren, rens_none f g caps (by simpa [AV.ids] using h1) (by simpa [AV.rows] using h2)]
  | .sc v, h1, h2 => rfl
  | .ar n s xs, h1, h2 => rfl
  | .rp v, h1, h2 => rfl
  | .tup xs, h1, h2 => by simp only [AV.ren, rens_none f g xs (by simpa [AV.ids] using h1) (by simpa [AV.rows] using h2)]
theorem rens_none (f g : Nat → Nat) : ∀ xs : List AV, AV.idss xs = [] → AV.rowss xs = [] → AV.rens f g xs = xs
  | [], _, _ => rfl
  | x :: xs, h1, h2 => by
    simp only [AV.idss, AV.rowss, List.append_eq_nil_iff] at h1 h2
    simp only [AV.rens, ren_none f g x h1.1 h2.1, rens_none f g xs h1.2 h2.2]
end

section
variable {P : Program} {D : Tabs} {B : Base} {nt nx : Nat} {tm : List (Nat × AV)} {lv : List Nat} {tmps : Array Value}

theorem freeze1 {E : Env} {bx : List (AV × Bool)} (h : Sim D B E ⟨nt, tm, ⟨bx, lv, nx⟩⟩ tmps) {id : Nat} {p : List Nat} {s : Shape} {off len cap : Nat} {u : Value} (hv : Rep0 E (shsOf bx) (.bs id p s off len cap) u) {K : List AV → List (AV × Bool) → Prop}
    (hk : boxK bx id fun c _ => match c.pure with
      | true => rdK c p fun a => match a with
        | .ar _ _ xs => K xs (bx.set id (c, true))
        | _ => False
      | false => False) :
    ∃ E' xs bx', E'.w = E.w ∧ Sim D B E' ⟨nt, tm, ⟨bx', lv, nx⟩⟩ tmps ∧ TrA E E' (shsOf bx) (shsOf bx') ∧ Rep0 E' (shsOf bx') (.sl s ((xs.drop off).take len) .ro) u ∧ K xs bx' := by
  obtain ⟨b, t', o, n, o', h1, h2, h3, h4, h5, h6, h7, rfl⟩ := rep_bs hv
  obtain ⟨c, f, cs, ty, fz, g1, g2, g3, g4, g5, g6, g7, g8⟩ := box_at h h1 h2 hk
  cases hcp : c.pure with
  | false => simp [hcp] at g2
  | true =>
    simp only [hcp] at g2
    obtain ⟨v', o2, k1, k2, k3, k4, kpu, k6⟩ := rd_ok E (shsOf bx) p c cs.toList _ g6 g2
    rw [g3, h3] at k2
    rw [g3, h4] at k3
    simp only [Option.some.injEq] at k2 k3
    subst k2
    split at k1
    · rename_i n' s' xs
      clear kpu
      simp only [AV.shape, Shape.ar.injEq] at k3
      obtain ⟨rfl, rfl⟩ := k3
      have hle : E.lim b ≤ cs.size := by
        cases f with
        | true => exact Nat.le_of_eq (g7 rfl).2
        | false => rw [g8 rfl]; exact Nat.zero_le _
      have hb0 := h.tidy
      have hdead := fun r => Sim.box_dead (σ := ⟨nt, tm, ⟨bx, lv, nx⟩⟩) hb0 (id := id) (b := b) h1 r
      have t0 : TrA E (E.bury lv) (shsOf bx) (shsOf bx) := tra_bury lv
      have t1 : TrA (E.bury lv) ((E.bury lv).setBlk b cs ty fz cs.size) (shsOf bx) (shsOf bx) := tra_setBlk g4 hle (fun _ _ => rfl) rfl fun r hr => absurd hr (hdead r)
      have hs := Sim.boxset hb0 (c' := c) (f' := true) (cs' := cs) (l := cs.size) g1 h1 g4 rfl (fun _ _ => rfl) hle rfl hdead (t1.ir (t0.ir g6)) (fun _ => ⟨hcp, rfl⟩) (fun e => by simp at e)
      have hw : ((E.bury lv).setBlk b cs ty fz cs.size).w = E.w := setBlk_self g4
      have t : TrA E ((E.bury lv).setBlk b cs ty fz cs.size) (shsOf bx) (shsOf (bx.set id (c, true))) := by rw [shsOf_set g1 rfl]; exact t0.trans t1
      refine ⟨_, xs, _, hw, hs, t, ?_, k1⟩
      obtain ⟨l1, l2, ps, hp, hc⟩ := k6
      have hlen : ((xs.drop off).take len).length = len := by simp; omega
      have e : xs = xs.take off ++ ((xs.drop off).take len ++ (xs.drop off).drop len) := by rw [List.take_append_drop, List.take_append_drop]
      rw [e] at hp
      obtain ⟨p1, q1, rfl, a1, a2⟩ := (PRs_append _ _ _).1 hp
      obtain ⟨p2, q2, rfl, a3, _⟩ := (PRs_append _ _ _).1 a2
      refine (rep0_lf rfl).2 ⟨⟨_, cap, by rw [hlen], by omega, fun e => by simp at e, (l2.drop off).take len, fun e => by simp at e, ?_⟩, fun r hr => by simp at hr⟩
      by_cases h0 : len = 0
      · left; rw [h0]; simp
      · refine .inr ⟨_, p2, rfl, PRs_ext t.ext _ _ a3, ?_⟩
        have hp1 : p1.flatten.length = off * s.size := by rw [PRs_len _ _ a1, sizes_all (l2.take off), List.length_take, Nat.min_eq_left (by omega)]
        have at_ : ∀ i u, p2.flatten[i]? = some u → cs.toList[o' + i]? = some u := by
          intro i u hu
          have hu' : ((cs.toList.drop o).take (AV.ar n s xs).shape.size)[off * s.size + i]? = some u := by
            rw [hc, List.flatten_append, List.flatten_append, List.getElem?_append_right (by omega), hp1, Nat.add_sub_cancel_left, List.getElem?_append_left (List.getElem?_eq_some_iff.1 hu).1]
            exact hu
          rw [List.getElem?_take, List.getElem?_drop] at hu'
          split at hu'
          · rw [h7 (by omega), Nat.add_assoc, hu']
          · simp at hu'
        refine ⟨rfl, fun i u hu => ?_, fun hne => ?_⟩
        · rw [hw, cell_of g4, ← Array.getElem?_toList]
          exact at_ i u hu
        · have hpos : 0 < p2.flatten.length := List.length_pos_iff.2 hne
          have := at_ (p2.flatten.length - 1) _ (List.getElem?_eq_getElem (by omega))
          have := (List.getElem?_eq_some_iff.1 this).1
          simp only [Array.length_toList] at this
          simp only [Env.setBlk, upd_at]
          omega
    · exact k1.elim

theorem freezeK_ok : ∀ (args : List AV) (us : List Value) (E : Env) (bx : List (AV × Bool)) (K : List AV → List (AV × Bool) → Prop), Sim D B E ⟨nt, tm, ⟨bx, lv, nx⟩⟩ tmps → RepL E (shsOf bx) args us → freezeK bx args K →
    ∃ E' as bx', E'.w = E.w ∧ Sim D B E' ⟨nt, tm, ⟨bx', lv, nx⟩⟩ tmps ∧ TrA E E' (shsOf bx) (shsOf bx') ∧ RepL E' (shsOf bx') as us ∧ K as bx'
  | [], us, E, bx, K, h, ha, hk => ⟨E, [], bx, rfl, h, TrA.refl _ _, ha, hk⟩
  | v :: vs, us, E, bx, K, h, ha, hk => by
    obtain ⟨u, us, rfl, hv, ha⟩ := ha
    have other : (∀ id p s off len cap, v ≠ .bs id p s off len cap) → ∃ E' as bx', E'.w = E.w ∧ Sim D B E' ⟨nt, tm, ⟨bx', lv, nx⟩⟩ tmps ∧ TrA E E' (shsOf bx) (shsOf bx') ∧ RepL E' (shsOf bx') as (u :: us) ∧ K as bx' := by
      intro hne
      have hk : dmK v fun u => freezeK bx vs fun us bx' => K (u :: us) bx' := by
        cases v <;> first | exact hk | exact absurd rfl (hne _ _ _ _ _ _)
      have hk := dmK_of v _ hk
      obtain ⟨E', as, bx', h1, h2, h3, h4, h5⟩ := freezeK_ok vs us E bx _ h ha hk
      exact ⟨E', v.dm :: as, bx', h1, h2, h3, ⟨u, us, rfl, h3.rep0 (rep0_dm hv), h4⟩, h5⟩
    cases v with
    | bs id p s off len cap =>
      clear other
      simp only [freezeK] at hk
      obtain ⟨E1, xs, bx1, h1, h2, h3, h4, h5⟩ := freeze1 (K := fun xs bx' => forceB bx' fun bx' => freezeK bx' vs fun us bx'' => K (.sl s ((xs.drop off).take len) .ro :: us) bx'') h hv hk
      have h5 := forceB_of _ _ h5
      obtain ⟨E', as, bx', k1, k2, k3, k4, k5⟩ := freezeK_ok vs us E1 bx1 _ h2 (h3.repL ha) h5
      exact ⟨E', _ :: as, bx', k1.trans h1, k2, h3.trans k3, ⟨u, us, rfl, k3.rep0 h4, k4⟩, k5⟩
    | _ => exact other (fun id p s off len cap => by simp)

/-- What a call needs to be taken over: where it ends. -/
def CallRes (D : Tabs) (B : Base) (nt : Nat) (tm : List (Nat × AV)) (tmps : Array Value) (d : Option Nat) (K : AS → Prop) (v : Value) (w' : World) : Prop :=
  ∃ E' m' r, E'.w = w' ∧ Sim D B E' ⟨nt, tm, m'⟩ tmps ∧ Rep E' (shsOf m'.bx) r v ∧ AS.put ⟨nt, tm, m'⟩ d r K

theorem call_core {E : Env} {bx : List (AV × Bool)} (h : Sim D B E ⟨nt, tm, ⟨bx, lv, nx⟩⟩ tmps) {ids rows : List Nat} {cs as : List AV} {us : List Value} {f : Nat} {d : Option Nat} {K : AS → Prop}
    (hc : contents bx ids = some cs) (hn : ids.Nodup) (hr : rows = AV.rowss cs) (hrl : ∀ r ∈ rows, r ∈ lv) (hrn : rows.Nodup) (hid : ∀ i ∈ AV.idss cs, i ∈ ids) (ha : RepL E (shsOf bx) as us) (hai : ∀ i ∈ AV.idss as, i ∈ ids) (har : AV.rowss as = [])
    (hF : FnOK P D f (AV.rens (fun i => posOf ids i 0) (fun k => posOf rows k 0) as) (AV.rens (fun i => posOf ids i 0) (fun k => posOf rows k 0) cs) fun r st => back1 nt tm bx lv nx d ids rows r st K) :
    CallsX P f us.toArray E.w (CallRes D B nt tm tmps d K) := by
  obtain ⟨t, hm, hb⟩ := callee_ok h.m hc hn (fun q hq => hr ▸ hq) hrl hrn hid
  have hrng : AV.rowss (AV.rens (fun i => posOf ids i 0) (fun k => posOf rows k 0) cs) = List.range rows.length := by rw [rowss_ren, ← hr, map_pos hrn]
  rw [← hrng] at hm
  have ha' := RepL_tr (t.mono hai (fun r hr => by rw [har] at hr; simp at hr)) ha
  refine (hF.run (E.callee ids rows) us hm (by rw [hrng]; simp [Env.callee]) ha').mono fun v w' ⟨E2, r, st, e1, e2, e3, e4, e5, e6⟩ => ?_
  unfold back1 at e6
  cases hcond : noDup (AV.rows r ++ AV.rowss st) && allLt st.length (AV.ids r ++ AV.idss st) && Nat.ble ids.length st.length with
  | false => simp [hcond] at e6
  | true =>
    simp only [hcond] at e6
    simp only [Bool.and_eq_true] at hcond
    obtain ⟨⟨c1, c2⟩, _⟩ := hcond
    have e6 := renK_of _ _ e6
    have e6 := rensK_of _ _ e6
    have e6 := litsK_of _ _ e6
    have e6 := litK_of e6
    have e6 := forceB_of _ _ e6
    have hcs : shsOf (boxesOf (AV.rens (fun i => posOf ids i 0) (fun k => posOf rows k 0) cs)) = cs.map AV.shape := by
      rw [shsOf_boxes, rens_map, List.map_map]
      exact List.map_congr_left fun c _ => shape_ren _ _ c
    rw [hrng, hcs] at e4
    rw [hcs, shsOf_boxes] at e5
    obtain ⟨E3, g1, g2, g3⟩ := back_ok h hc hn hr hrl hrn hid e2 e3 e4 e5 (noDup_of _ c1) (allLt_of _ _ c2)
    exact ⟨E3, _, _, g1.trans e1, g2, g3, e6⟩

theorem callRest_ok {E1 : Env} {bx1 : List (AV × Bool)} (h1 : Sim D B E1 ⟨nt, tm, ⟨bx1, lv, nx⟩⟩ tmps) {f : Nat} {as : List AV} {us : List Value} {d : Option Nat} {K : AS → Prop} (ha1 : RepL E1 (shsOf bx1) as us)
    (hk : callRest (FnOK P D) nt tm bx1 lv nx d f as K) : CallsX P f us.toArray E1.w (CallRes D B nt tm tmps d K) := by
  unfold callRest at hk
  cases hp : AV.pures as with
  | true =>
    simp only [hp] at hk
    obtain ⟨p1, p2⟩ := pures_none as hp
    have e1 : AV.rens (fun i => posOf [] i 0) (fun k => posOf [] k 0) as = as := by
      clear hk ha1
      have key : ∀ (f g : Nat → Nat) (xs : List AV), AV.idss xs = [] → AV.rowss xs = [] → AV.rens f g xs = xs := by
        intro f g xs h1 h2
        exact rens_none f g xs h1 h2
      exact key _ _ _ p1 p2
    refine call_core h1 (ids := []) (rows := []) (cs := []) (as := as) rfl (by simp) rfl (by simp) (by simp) (by simp [AV.idss]) ha1 (by rw [p1]; simp) p2 ?_
    rw [e1]
    refine FnOK.mono hk fun r st hb => ?_
    unfold back0 at hb
    unfold back1
    simp only [List.length_nil, Nat.zero_le, Nat.ble_eq_true_of_le, Bool.and_true, setAll, remAll, List.drop_zero, List.take_zero]
    exact hb
  | false =>
    simp only [hp] at hk
    cases hc0 : contents bx1 (dedup [] (AV.idss as)) with
    | none => simp [hc0] at hk
    | some c0 =>
      simp only [hc0] at hk
      have hk := litsK_of _ _ hk
      cases hc1 : contents bx1 (more bx1 (dedup [] (dedup [] (AV.idss as) ++ AV.idss c0))) with
      | none => simp [hc1] at hk
      | some cs =>
        simp only [hc1] at hk
        have hk := litsK_of _ _ hk
        split at hk
        · exact hk.elim
        · rename_i hcond
          have hk := rensK_of _ _ hk
          have hk := rensK_of _ _ hk
          simp only [Bool.and_eq_true] at hcond
          obtain ⟨⟨⟨c1, c2⟩, c3⟩, c4⟩ := hcond
          obtain ⟨d1, d2⟩ := dedup_spec (dedup [] (AV.idss as) ++ AV.idss c0) [] (by simp)
          obtain ⟨_, d3⟩ := dedup_spec (AV.idss as) [] (by simp)
          obtain ⟨m1, m2, _⟩ := more_spec bx1 _ d1
          refine call_core h1 hc1 m1 rfl (allMemb_of _ _ c1) (noDup_of _ c2) (allMemb_of _ _ c3) ha1 (fun i hi => ?_) (by simpa using c4) hk
          refine m2 i ?_
          rw [d2]
          exact .inr (List.mem_append_left _ ((d3 i).2 (.inr hi)))
theorem wCall_ok {E : Env} {bx : List (AV × Bool)} (h : Sim D B E ⟨nt, tm, ⟨bx, lv, nx⟩⟩ tmps) {f : Nat} {args : List AV} {us : List Value} {d : Option Nat} {K : AS → Prop} (ha : RepL E (shsOf bx) args us)
    (hk : wCall (FnOK P D) ⟨nt, tm, ⟨bx, lv, nx⟩⟩ d f args K) : CallsX P f us.toArray E.w (CallRes D B nt tm tmps d K) := by
  simp only [wCall] at hk
  obtain ⟨E1, as, bx1, w1, h1, _, ha1, hk⟩ := freezeK_ok args us E bx _ h ha hk
  rw [← w1]
  exact callRest_ok h1 ha1 hk
theorem repL_dmsL {E : Env} {shs : List Shape} : ∀ (xs : List AV) (us : List Value), RepL E shs xs us → RepL E shs (AV.dms xs) us
  | [], us, h => h
  | x :: xs, us, h => by
    obtain ⟨u, vs, h1, h2, h3⟩ := h
    exact ⟨u, vs, h1, rep0_dm h2, repL_dmsL xs vs h3⟩
theorem wCallL_ok {E : Env} {bx : List (AV × Bool)} (h : Sim D B E ⟨nt, tm, ⟨bx, lv, nx⟩⟩ tmps) {f : Nat} {args : List AV} {us : List Value} {d : Option Nat} {K : AS → Prop} (ha : RepL E (shsOf bx) args us)
    (hk : wCallL (FnOK P D) ⟨nt, tm, ⟨bx, lv, nx⟩⟩ d f args K) : CallsX P f us.toArray E.w (CallRes D B nt tm tmps d K) := by
  simp only [wCallL] at hk
  exact callRest_ok h (repL_dmsL _ _ ha) (dmsK_of _ _ hk)
end
end Go.WL
namespace Go.WL
section
variable {P : Program} {D : Tabs} {B : Base}

theorem rep_of0 {E : Env} {shs : List Shape} {v : AV} {u : Value} (h : Rep0 E shs v u) : Rep E shs v u := by
  cases v <;> first | exact h | exact h.elim

/-- A store: no slot is laid. -/
theorem fin_unit {o : Oper} {a : Act} {E E' : Env} {σ' : AS} {K : AS → Prop} {next : Act → World → Prop} {Q : Exit → Act → World → Prop} {s : Sem Unit}
    (he : execOp a.eval o = (do s; pure Next.skip)) (hd : o.dst = none) (hrun : s.run P E.w = .ok () E'.w) (h : Sim D B E' σ' a.tmps) (hk : K σ') (hn : NextOK D B a next K) : o.wp P a E.w next Q := by
  unfold Oper.wp
  rw [he]
  simp only [Sem.run_bind, hrun, Result.andThen_ok, Sem.run_pure, Oper.upon_skip, hd]
  exact hn E' σ' a h rfl hk

theorem optE_ok (hT : TabOK P D) {E : Env} {nt : Nat} {tm : List (Nat × AV)} {m : Mem} {a : Act} (h : Sim D B E ⟨nt, tm, m⟩ a.tmps) {x : Option Operand} {K : Option AV → Prop} (hk : optE D tm x K) : ∃ v, K v ∧ optRep E (shsOf m.bx) v (x.map a.eval) := by
  unfold optE at hk
  split at hk
  · exact ⟨none, hk, rfl⟩
  · rename_i o
    split at hk
    · rename_i v hv
      exact ⟨some v, hk, _, rfl, eval_ok hT h hv⟩
    · exact hk.elim

theorem eval_nil {x : Operand} {sl : Bool} (h : isNil x = some sl) (a : Act) : a.eval x = if sl then .slice none 0 0 else .pointer none := by
  unfold isNil at h
  split at h <;> simp only [Option.some.injEq, reduceCtorEq] at h <;> subst h <;> rfl

theorem arrayAt_ok (hT : TabOK P D) {E : Env} {shs : List Shape} {t : Nat} {s : Shape} {xs : List AV} {m : Mark} {u : Value} {K : Nat → Prop} (hu : Rep E shs (.sl s xs m) u)
    (hk : arrSh (lookT D.ty t) fun n s' => match Shape.eqb s s' && Nat.blt 0 n with
      | true => n ≤ xs.length ∧ K n
      | false => False) : ∃ n r, K n ∧ Rep E shs (.rp (.ar n s (xs.take n))) r ∧ (Instr.arrayAt t u).run P E.w = .ok r E.w := by
  unfold arrSh at hk
  split at hk
  · rename_i n e n2 s' by_ z ht
    obtain ⟨dd, i, zz, h1, _, _, _, h4, _⟩ := (hT t _ ht).fact
    obtain ⟨rfl, j, hj, hsh⟩ := h4
    split at hk
    · rename_i hc
      simp only [Bool.and_eq_true] at hc
      have hn : 0 < n := Nat.le_of_ble_eq_true hc.2
      obtain ⟨hl, hk⟩ := hk
      obtain ⟨a, c, rfl, h2, _, h4, _, h6, _⟩ := rep_sl hu
      rcases h6 with rfl | ⟨ad, ps, rfl, hp, hli⟩
      · simp at hl; omega
      · obtain ⟨qs, g1, g2⟩ := lies_cut hp hli h4 (l := 0) (k := n) (by omega)
        simp only [List.drop_zero, Nat.zero_mul, Nat.add_zero] at g1 g2
        refine ⟨n, .pointer (some ad), hk, ⟨ad, qs.flatten, rfl, rfl, ⟨by simp; omega, h4.take n, qs, g1, rfl⟩, ?_⟩, ?_⟩
        · have := hli.1
          rw [show ad = ⟨ad.block, ad.off, none⟩ by cases ad; simp_all]
          exact g2
        · simp [Instr.arrayAt, run_underlying' h1, Nat.not_lt.2 hl]
    · exact hk.elim
  · exact hk.elim

theorem allLf_of : ∀ {xs : List AV}, allLf xs = true → ∀ x ∈ xs, x.shape = .lf ∧ ∀ ys, x ≠ .tup ys
  | [], _ => by simp
  | y :: ys, h => by
    simp only [allLf, Bool.and_eq_true] at h
    intro x hx
    rcases List.mem_cons.1 hx with rfl | hx
    · cases x <;> simp [AV.shape] at h ⊢
    · exact allLf_of h.2 x hx
theorem dm_lf : ∀ {xs : List AV}, allLf xs = true → allLf (AV.dms xs) = true
  | [], _ => rfl
  | y :: ys, h => by
    simp only [allLf, Bool.and_eq_true] at h
    simp only [AV.dms, allLf, Bool.and_eq_true]
    refine ⟨?_, dm_lf h.2⟩
    cases y with
    | sl s xs m => cases m <;> rfl
    | st xs => simp at h
    | ar n s xs => simp at h
    | tup xs => simp at h
    | _ => rfl
theorem irs_lf {E : Env} {shs : List Shape} : ∀ {xs : List AV} {us : List Value}, allLf xs = true → (IRs E shs xs (us.map fun u => [u]) ↔ RepL E shs xs us)
  | [], us, _ => by simp [IRs, RepL]
  | x :: xs, us, h => by
    have hx := (allLf_of h x (by simp)).1
    simp only [allLf, Bool.and_eq_true] at h
    cases us with
    | nil => simp [IRs, RepL]
    | cons u us =>
      have ih := irs_lf (E := E) (shs := shs) (xs := xs) (us := us) h.2
      simp only [IRs, RepL, List.map_cons, List.cons.injEq]
      constructor
      · rintro ⟨p, qs, ⟨rfl, rfl⟩, h1, h2⟩
        exact ⟨u, us, ⟨rfl, rfl⟩, (rep0_lf hx).2 h1, ih.1 h2⟩
      · rintro ⟨p, qs, ⟨rfl, rfl⟩, h1, h2⟩
        exact ⟨[u], _, ⟨rfl, rfl⟩, (rep0_lf hx).1 h1, ih.2 h2⟩
theorem repL_dms {E : Env} {shs : List Shape} : ∀ {xs : List AV} {us : List Value}, RepL E shs xs us → RepL E shs (AV.dms xs) us
  | [], _, h => h
  | x :: xs, _, ⟨u, vs, h1, h2, h3⟩ => ⟨u, vs, h1, rep0_dm h2, repL_dms h3⟩
theorem repL_at {E : Env} {shs : List Shape} : ∀ {xs : List AV} {us : List Value} {i : Nat} {v : AV}, RepL E shs xs us → xs[i]? = some v → ∃ u, us[i]? = some u ∧ Rep0 E shs v u
  | [], _, i, v, _, h => by simp at h
  | x :: xs, _, 0, v, ⟨u, vs, h1, h2, h3⟩, h => by
    simp only [List.getElem?_cons_zero, Option.some.injEq] at h
    subst h h1
    exact ⟨u, rfl, h2⟩
  | x :: xs, _, i + 1, v, ⟨u, vs, h1, h2, h3⟩, h => by
    rw [List.getElem?_cons_succ] at h
    rw [h1, List.getElem?_cons_succ]
    exact repL_at (xs := xs) h3 h
mutual
theorem shape_dm : ∀ v : AV, v.dm.shape = v.shape
  | .st xs => by simp only [AV.dm, AV.shape, shapes_dms xs]
  | .sl s xs m => by cases m <;> rfl
  | .pt id p => rfl
  | .bs id p s off len cap => rfl
  | .fn k caps => rfl
  | .sc v => rfl
  | .ar n s xs => rfl
  | .rp v => rfl
  | .tup xs => rfl
theorem shapes_dms : ∀ xs : List AV, AV.shapes (AV.dms xs) = AV.shapes xs
  | [] => rfl
  | x :: xs => by simp only [AV.dms, AV.shapes, shape_dm x, shapes_dms xs]
end

/-- An operation that is no call. -/
theorem wOp1_ok (hT : TabOK P D) {F : CallT} {o : Oper} {a : Act} {E : Env} {σ : AS} {K : AS → Prop} {next : Act → World → Prop} {Q : Exit → Act → World → Prop} (h : Sim D B E σ a.tmps) (hk : wOp D F o σ K) (hn : NextOK D B a next K) (hc : ∀ c, o.op ≠ .call c) : o.wp P a E.w next Q := by
  obtain ⟨nt, tm, bx, lv, nx⟩ := σ
  obtain ⟨d, op, ty, po, af, g⟩ := o
  cases op with
  | call c => exact absurd rfl (hc c)
  | move x =>
    simp only [wOp] at hk
    split at hk
    · rename_i v hv
      exact fin_same (s := pure (a.eval x)) (by simp [execOp]) rfl h (eval_ok hT h hv) hk hn
    · exact hk.elim
  | assign x =>
    simp only [wOp] at hk
    split at hk
    · rename_i v hv
      exact fin_same (s := pure (a.eval x)) (by simp [execOp]) rfl h (eval_ok hT h hv) hk hn
    · exact hk.elim
  | pick c x y =>
    simp only [wOp] at hk
    split at hk
    · rename_i t hv
      obtain ⟨he, _⟩ := rep_sc.1 (eval_ok hT h hv)
      cases t with
      | true =>
        simp only [Branch] at hk
        split at hk
        · rename_i v hv
          exact fin_val (E' := E) (by simp [execOp, he, asBool]) h (eval_ok hT h hv) hk hn
        · exact hk.elim
      | false =>
        simp only [Branch] at hk
        split at hk
        · rename_i v hv
          exact fin_val (E' := E) (by simp [execOp, he, asBool]) h (eval_ok hT h hv) hk hn
        · exact hk.elim
    · exact hk.elim
  | alloc e =>
    simp only [wOp] at hk
    split at hk
    · rename_i k sh by_ z ht
      have hk := litK_of hk
      have hk := forceB_of _ _ hk
      obtain ⟨E', r, g1, g2, g3⟩ := alloc_ok (P := P) hT h ht
      exact fin_val (E' := E') (by simp [execOp, g3]) g1 g2 hk hn
    · exact hk.elim
  | box e x =>
    simp only [wOp] at hk
    split at hk
    · split at hk
      · rename_i v hv
        split at hk
        · have hk := dmK_of _ _ hk
          have hk := litK_of hk
          have hk := forceB_of _ _ hk
          obtain ⟨E', r, g1, g2, g3⟩ := box_ok (P := P) h e (rep0_dm (evalN_ok hT h hv))
          exact fin_val (E' := E') (by simp [execOp, g3]) g1 g2 hk hn
        · exact hk.elim
      · exact hk.elim
    · exact hk.elim
  | build t ps =>
    simp only [wOp] at hk
    obtain ⟨v, r, g1, g2, g3⟩ := wBuild_ok hT h hk
    exact fin_same rfl g3 h g2 g1 hn
  | buildSlice t n ps =>
    simp only [wOp] at hk
    obtain ⟨e, sh, by_, i, zv, hk, e1, e2, e3, e4, e5, kd, za, e6⟩ := slc_fact hT hk
    split at hk
    · exact hk.elim
    · rename_i hle
      rw [e6] at hk
      simp only at hk
      obtain ⟨vs, hk, hp⟩ := evalP_ok hT h _ _ hk
      split at hk
      · rename_i hsp
        obtain ⟨xs, cells, g1, g2, g4⟩ := buildSlice_ok hT h e6 e1 (Nat.le_of_ble_eq_true hle) hp hsp hk
        exact fin_val (by simp only [execOp, Sem.run_bind, g4]; rfl) (g2 (0, 0)).1 ((g2 (0, 0)).2 .ex (by simp)) g1 hn
      · exact hk.elim
  | load t x =>
    simp only [wOp] at hk
    split at hk
    · rename_i p hv
      obtain ⟨v, r, g1, g2, g3⟩ := wLoad_ok hT h (eval_ok hT h hv) hk
      exact fin_same rfl g3 h g2 g1 hn
    · exact hk.elim
  | store t x y =>
    simp only [wOp] at hk
    cases d with
    | some d => exact hk.elim
    | none =>
      simp only at hk
      split at hk
      · rename_i p hv
        split at hk
        · rename_i k sh by_ z ht
          split at hk
          · rename_i v hy
            split at hk
            · rename_i he
              have he := eqb_of _ _ he
              have hr := evalN_ok hT h hy
              have key : ∀ v', v'.shape = v.shape → Rep0 E (shsOf bx) v' (a.eval y) → wStore nt tm bx lv nx p v' K → Oper.wp P ⟨none, .store t x y, ty, po, af, g⟩ a E.w next Q := by
                intro v' hv' hr' hk'
                obtain ⟨E', σ', g1, g2, g3⟩ := wStore_ok (P := P) hT h ht (hv'.trans he.symm) (eval_ok hT h hv) hr' hk'
                exact fin_unit (s := Instr.storeAt t (a.eval x) (a.eval y)) rfl rfl g3 g2 g1 hn
              split at hk
              · exact key _ rfl hr hk
              · have hk := dmK_of _ _ hk
                refine key _ ?_ (rep0_dm hr) hk
                exact shape_dm _
            · exact hk.elim
          · exact hk.elim
        · exact hk.elim
      · exact hk.elim
  | nilCheck x =>
    simp only [wOp] at hk
    split at hk
    · rename_i id p hv
      have hr := eval_ok hT h hv
      obtain ⟨b, s, o, _, _, _, he⟩ := rep_pt hr
      exact fin_val (E' := E) (by simp [execOp, he]) h (he ▸ hr) hk hn
    · rename_i v hv
      have hr := eval_ok hT h hv
      obtain ⟨ad, ds, he, _⟩ := rep_rp hr
      exact fin_val (E' := E) (by simp [execOp, he]) h (he ▸ hr) hk hn
    · rename_i f cs hv
      have hr := eval_ok hT h hv
      obtain ⟨us, _, he⟩ := hr
      simp only [List.cons.injEq, and_true] at he
      exact fin_val (E' := E) (by simp [execOp, he]) h (he ▸ eval_ok hT h hv) hk hn
    · exact hk.elim
  | binOp op t x y c =>
    simp only [wOp] at hk
    split at hk
    · rename_i sl hs
      split at hk
      · rename_i v hv
        obtain ⟨⟨r, g1, g2, g3⟩, _⟩ := nilTest_ok hT hk (eval_ok hT h hv) _ rfl E.w x y
        refine fin_same rfl ?_ h (rep_sc.2 ⟨rfl, g2⟩) g3 hn
        rw [← eval_nil hs a] at g1
        exact g1
      · exact hk.elim
    · split at hk
      · rename_i sl hs
        split at hk
        · rename_i v hv
          obtain ⟨_, r, g1, g2, g3⟩ := nilTest_ok hT hk (eval_ok hT h hv) _ rfl E.w x y
          refine fin_same rfl ?_ h (rep_sc.2 ⟨rfl, g2⟩) g3 hn
          rw [← eval_nil hs a] at g1
          exact g1
        · exact hk.elim
      · split at hk
        · rename_i v hv
          split at hk
          · rename_i u hu
            obtain ⟨r, g1, g2, g3⟩ := wBin_ok hT hk (eval_ok hT h hv) (eval_ok hT h hu) x y E.w
            exact fin_same rfl g1 h (rep_sc.2 ⟨rfl, g2⟩) g3 hn
          · exact hk.elim
        · exact hk.elim
  | unOp op t x =>
    simp only [wOp] at hk
    split at hk
    · rename_i v hv
      obtain ⟨r, g1, g2, g3⟩ := wUn_ok (P := P) hk (eval_ok hT h hv) E.w
      exact fin_same rfl g1 h (rep_sc.2 ⟨rfl, g2⟩) g3 hn
    · exact hk.elim
  | convert s t x =>
    simp only [wOp] at hk
    split at hk
    · rename_i v hv
      exact fin_res rfl (isConv_ok hT h (eval_ok hT h hv) hk) hn
    · exact hk.elim
  | sliceToArrayPointer t x =>
    simp only [wOp] at hk
    split at hk
    · rename_i s xs m hv
      obtain ⟨n, r, g1, g2, g3⟩ := arrayAt_ok (K := fun n => AS.put ⟨nt, tm, ⟨bx, lv, nx⟩⟩ d (.rp (.ar n s (xs.take n))) K) hT (eval_ok hT h hv) hk
      exact fin_same rfl g3 h g2 g1 hn
    · exact hk.elim
  | makeFunc f first caps =>
    simp only [wOp] at hk
    split at hk
    · rename_i k
      split at hk
      · rename_i hf
        split at hk
        · rename_i cs hcs
          split at hk
          · rename_i hl
            have hk := dmsK_of _ _ hk
            have hr := repL_dms (evalA_ok hT h _ _ _ hcs)
            have hf : first = #[] := by simpa using hf
            refine fin_val (E' := E) (v := .fn k (AV.dms cs)) (u := .func (.func k) #[] (caps.map a.eval)) ?_ h ?_ hk hn
            · simp [execOp, hf, Instr.makeFunc]
            · exact ⟨caps.toList.map a.eval, (irs_lf (dm_lf hl)).2 hr, by simp only [List.cons.injEq, and_true, Value.func.injEq, true_and]; exact (Array.ext' (by simp))⟩
          · exact hk.elim
        · exact hk.elim
      · exact hk.elim
    · exact hk.elim
  | makeSlice t l c =>
    simp only [wOp] at hk
    obtain ⟨e, sh, by_, i, zv, hk, e1, e2, e3, e4, e5, kd, za, e6⟩ := slc_fact hT hk
    rw [e6] at hk
    simp only at hk
    split at hk
    · rename_i k1 n hl
      split at hk
      · rename_i k2 m hm
        split at hk
        · rename_i hb
          obtain ⟨h0, h1, h2, hk⟩ := hk
          have hk := litK_of hk
          have hk := forceB_of _ _ hk
          obtain ⟨E', r, g1, g2, g3⟩ := makeSlice_ok (P := P) hT h e6 e1 (Nat.le_of_ble_eq_true hb) (k1 := k1) (k2 := k2) h0 h1 h2
          obtain ⟨l1, _⟩ := rep_sc.1 (eval_ok hT h hl)
          obtain ⟨l2, _⟩ := rep_sc.1 (eval_ok hT h hm)
          exact fin_val (E' := E') (by simp [execOp, l1, l2, g3]) g1 g2 hk hn
        · exact hk.elim
      · exact hk.elim
    · exact hk.elim
  | slice t x lo hi mx =>
    simp only [wOp] at hk
    split at hk
    · rename_i v hv
      obtain ⟨l, hk, r1⟩ := optE_ok hT h hk
      obtain ⟨l2, hk, r2⟩ := optE_ok hT h hk
      obtain ⟨l3, hk, r3⟩ := optE_ok hT h hk
      obtain ⟨v, r, g1, g2, g3⟩ := wSlice_ok hT h (eval_ok hT h hv) r1 r2 r3 hk
      exact fin_same rfl g3 h g2 g1 hn
    · exact hk.elim
  | fieldAddr s x f =>
    simp only [wOp] at hk
    split at hk
    · rename_i p hv
      obtain ⟨v, r, g1, g2, g3⟩ := wFieldAddr_ok hT h (eval_ok hT h hv) hk
      exact fin_same rfl g3 h g2 g1 hn
    · exact hk.elim
  | field t x f =>
    simp only [wOp] at hk
    split at hk
    · rename_i p hv
      obtain ⟨v, r, g1, g2, g3⟩ := wField_ok (P := P) hT (eval_ok hT h hv) hk
      exact fin_same rfl g3 h g2 g1 hn
    · exact hk.elim
  | indexAddr t x ix =>
    simp only [wOp] at hk
    split at hk
    · rename_i i hi
      split at hk
      · rename_i p hv
        obtain ⟨v, r, g1, g2, g3⟩ := wIndexAddr_ok hT h (eval_ok hT h hv) (eval_ok hT h hi) hk
        exact fin_same rfl g3 h g2 g1 hn
      · exact hk.elim
    · exact hk.elim
  | index t x ix =>
    simp only [wOp] at hk
    split at hk
    · rename_i i hi
      split at hk
      · rename_i p hv
        obtain ⟨v, r, g1, g2, g3⟩ := wIndex_ok (P := P) hT (eval_ok hT h hv) (eval_ok hT h hi) hk
        exact fin_same rfl g3 h g2 g1 hn
      · exact hk.elim
    · exact hk.elim
  | extract x i =>
    simp only [wOp] at hk
    split at hk
    · rename_i xs hv
      split at hk
      · rename_i v hx
        obtain ⟨us, he, hr⟩ := eval_ok hT h hv
        obtain ⟨u, g1, g2⟩ := repL_at hr hx
        refine fin_same rfl (u := u) ?_ h (rep_of0 g2) hk hn
        rw [he]
        simp [Instr.extract, g1]
      · exact hk.elim
    · exact hk.elim
  | _ => exact hk.elim
end
end Go.WL
namespace Go.WL
section
variable {P : Program} {D : Tabs} {B : Base}

theorem repL_append {E : Env} {shs : List Shape} : ∀ {xs ys : List AV} {us vs : List Value}, RepL E shs xs us → RepL E shs ys vs → RepL E shs (xs ++ ys) (us ++ vs)
  | [], _, us, _, h, k => by
    have h : us = [] := h
    subst h
    exact k
  | x :: xs, _, _, _, ⟨u, ws, h1, h2, h3⟩, k => by
    subst h1
    exact ⟨u, ws ++ _, rfl, h2, repL_append h3 k⟩

theorem arr1 {α : Type} {xs : Array α} {a : α} (h : xs.toList = [a]) : xs = #[a] := Array.ext' (by simpa using h)
theorem arr2 {α : Type} {xs : Array α} {a b : α} (h : xs.toList = [a, b]) : xs = #[a, b] := Array.ext' (by simpa using h)
theorem wLen_ok (hT : TabOK P D) {E : Env} {shs : List Shape} {t ty : Nat} {x : AV} {u : Value} {K : AV → Prop} (hx : Rep E shs x u) (hk : wLen D t x K) : ∃ v r, K v ∧ Rep E shs v r ∧ (Builtin.len_ #[t] ty #[u]).run P E.w = .ok r E.w := by
  have ptr : ∀ ad, u = .pointer (some ad) → lenP D t K → ∃ v r, K v ∧ Rep E shs v r ∧ (Builtin.len_ #[t] ty #[u]).run P E.w = .ok r E.w := by
    rintro ad rfl hk
    unfold lenP at hk
    split at hk
    · rename_i e _ _ _ ht
      obtain ⟨dd, i, z, h1, _, _, _, h4, _⟩ := (hT t _ ht).fact
      obtain ⟨_, rfl⟩ := h4
      split at hk
      · rename_i n e2 _ _ _ he
        obtain ⟨dd, i, z, h2, _, _, _, h4, _⟩ := (hT e _ he).fact
        obtain ⟨rfl, _⟩ := h4
        refine ⟨_, .int .i64 n, hk, rep_sc.2 ⟨rfl, rfl⟩, ?_⟩
        simp [Builtin.len_, run_underlying' h1, run_underlying' h2, goInt]
      · exact hk.elim
    · exact hk.elim
  unfold wLen at hk
  split at hk
  · rename_i s xs m
    obtain ⟨e, sh, by_, i, zv, hk, e1, _⟩ := slc_fact hT hk
    obtain ⟨a, c, rfl, _⟩ := rep_sl hx
    exact ⟨_, .int .i64 _, hk, rep_sc.2 ⟨rfl, rfl⟩, by simp [Builtin.len_, run_underlying' e1, goInt]⟩
  · rename_i id p s off n c
    obtain ⟨e, sh, by_, i, zv, hk, e1, _⟩ := slc_fact hT hk
    obtain ⟨b, t', o, n', o', _, _, _, _, _, _, _, rfl⟩ := rep_bs hx
    exact ⟨_, .int .i64 _, hk, rep_sc.2 ⟨rfl, rfl⟩, by simp [Builtin.len_, run_underlying' e1, goInt]⟩
  · rename_i s
    obtain ⟨rfl, _⟩ := rep_sc.1 hx
    split at hk
    · rename_i ht
      obtain ⟨dd, i, z, h1, _, _, _, h4, _⟩ := (hT t _ ht).fact
      obtain ⟨_, rfl⟩ := h4
      exact ⟨_, .int .i64 _, hk, rep_sc.2 ⟨rfl, rfl⟩, by simp [Builtin.len_, run_underlying' h1, goInt]⟩
    · exact hk.elim
  · rename_i n s xs
    split at hk
    · rename_i n0 e _ _ _ ht
      obtain ⟨dd, i, z, h1, _, _, _, h4, _⟩ := (hT t _ ht).fact
      obtain ⟨rfl, _⟩ := h4
      split at hk
      · rename_i hb
        rw [Nat.eq_of_beq_eq_true hb] at hk
        obtain ⟨cs, rfl, _⟩ := hx
        exact ⟨_, .int .i64 _, hk, rep_sc.2 ⟨rfl, rfl⟩, by simp [Builtin.len_, run_underlying' h1, goInt]⟩
      · exact hk.elim
    · exact hk.elim
  · obtain ⟨b, s, o, _, _, _, he⟩ := rep_pt hx
    exact ptr _ he hk
  · obtain ⟨ad, ds, he, _⟩ := rep_rp hx
    exact ptr _ he hk
  · exact hk.elim

theorem wCopy_ok (hT : TabOK P D) {E : Env} {σ : AS} {a : Act} {d : Option Nat} {K : AS → Prop} (h : Sim D B E σ a.tmps) {t t2 ty : Nat} {s x : AV} {sv xv : Value} (hs : Rep E (shsOf σ.m.bx) s sv) (hx : Rep E (shsOf σ.m.bx) x xv) (hk : wCopy D σ d t s x K) :
    OpRes P D B E σ.nt σ.tm a.tmps d K (Builtin.copy_ #[t, t2] ty #[sv, xv]) := by
  obtain ⟨nt, tm, bx, lv, nx⟩ := σ
  simp only [wCopy] at hk
  split at hk
  · rename_i id p s off len cap
    obtain ⟨e, sh, by_, i, zv, hk1, e1, e2, e3, e4, e5, kd, za, e6⟩ := slc_fact hT hk
    split at hk1
    · rename_i hsh
      have hsh := eqb_of _ _ hsh
      subst hsh
      split at hk1
      · obtain ⟨rfl, _⟩ := rep_sc.1 hx
        split at hk1
        · rename_i hl
          have hl := eqb_of _ _ hl
          subst hl
          exact cpGo_ok h e1 e2 e3 hs (src_str E _) hk1
        · exact hk1.elim
      · obtain ⟨s', ys, hk2, hsrc⟩ := readS_ok (P := P) h hx hk1
        split at hk2
        · rename_i hl
          have hl := eqb_of _ _ hl
          rw [hl] at hsrc
          exact cpGo_ok h e1 e2 e3 hs hsrc hk2
        · exact hk2.elim
    · exact hk1.elim
  · exact hk.elim

theorem fin_builtin {o : Oper} {a : Act} {E : Env} {nt : Nat} {tm : List (Nat × AV)} {K : AS → Prop} {next : Act → World → Prop} {Q : Exit → Act → World → Prop} {s : Sem Value}
    (he : (execOp a.eval o).run P E.w = (do pure (Next.value (← s)) : Sem Next).run P E.w) (h : OpRes P D B E nt tm a.tmps o.dst K s) (hn : NextOK D B a next K) : o.wp P a E.w next Q := by
  obtain ⟨E', m', v, r, h1, h2, h3, h4⟩ := h
  refine fin_val (E' := E') ?_ h1 h2 h4 hn
  rw [he]
  simp [h3]

theorem wBuiltin_ok (hT : TabOK P D) {d : Option Nat} {b : Builtin} {args : Array Operand} {ats : Array Nat} {ty : TypeId} {po : String} {af : Array Edge} {g : Option (Nat × Bool)} {a : Act} {E : Env} {σ : AS} {K : AS → Prop} {next : Act → World → Prop} {Q : Exit → Act → World → Prop} (h : Sim D B E σ a.tmps) {as : List AV} (ha : RepL E (shsOf σ.m.bx) as (args.toList.map a.eval)) (hk : wBuiltin D σ d b as ats.toList K) (hn : NextOK D B a next K) :
    Oper.wp P ⟨d, .call ⟨.builtin b, args, ats⟩, ty, po, af, g⟩ a E.w next Q := by
  have hex : execOp a.eval ⟨d, .call ⟨.builtin b, args, ats⟩, ty, po, af, g⟩ = builtin b ats ty (args.map fun | .const _ => true | _ => false) (args.map a.eval) := rfl
  unfold wBuiltin at hk
  split at hk
  · -- append
    split at hk
    · rename_i s x t t2 hts
      obtain ⟨u, us, h1, h2, u2, us2, h3, h4, h5⟩ := ha
      have h5 : us2 = [] := h5
      have hargs : args.map a.eval = #[u, u2] := arr2 (by rw [Array.toList_map, h1, h3, h5])
      have hats := arr2 hts
      refine fin_builtin (s := Builtin.append_ #[t, t2] ty #[u, u2]) ?_ (wAppend_ok hT h (rep_of0 h2) (rep_of0 h4) hk) hn
      rw [hex, hargs, hats]
      rfl
    · exact hk.elim
  · -- len
    split at hk
    · rename_i x t hts
      obtain ⟨u, us, h1, h2, h3⟩ := ha
      have h3 : us = [] := h3
      have hargs : args.map a.eval = #[u] := arr1 (by rw [Array.toList_map, h1, h3])
      have hats := arr1 hts
      obtain ⟨v, r, g1, g2, g3⟩ := wLen_ok (ty := ty) hT (rep_of0 h2) hk
      obtain ⟨nt, tm, m⟩ := σ
      refine fin_builtin (s := Builtin.len_ #[t] ty #[u]) ?_ ⟨E, _, v, r, h, g2, g3, g1⟩ hn
      rw [hex, hargs, hats]
      rfl
    · exact hk.elim
  · -- copy
    split at hk
    · rename_i s x t t2 hts
      obtain ⟨u, us, h1, h2, u2, us2, h3, h4, h5⟩ := ha
      have h5 : us2 = [] := h5
      have hargs : args.map a.eval = #[u, u2] := arr2 (by rw [Array.toList_map, h1, h3, h5])
      have hats := arr2 hts
      refine fin_builtin (s := Builtin.copy_ #[t, t2] ty #[u, u2]) ?_ (wCopy_ok hT h (rep_of0 h2) (rep_of0 h4) hk) hn
      rw [hex, hargs, hats]
      rfl
    · exact hk.elim
  · -- clear
    split at hk
    · rename_i x t hts
      obtain ⟨u, us, h1, h2, h3⟩ := ha
      have h3 : us = [] := h3
      have hargs : args.map a.eval = #[u] := arr1 (by rw [Array.toList_map, h1, h3])
      have hats := arr1 hts
      refine fin_builtin (s := Builtin.clear_ #[t] ty #[u]) ?_ (wClear_ok hT h (rep_of0 h2) hk) hn
      rw [hex, hargs, hats]
      rfl
    · exact hk.elim
  · -- min
    split at hk
    · rename_i k x k' y
      obtain ⟨u, us, h1, h2, u2, us2, h3, h4, h5⟩ := ha
      have h5 : us2 = [] := h5
      have hargs : args.map a.eval = #[u, u2] := arr2 (by rw [Array.toList_map, h1, h3, h5])
      obtain ⟨rfl, _⟩ := rep_sc.1 (rep_of0 h2)
      obtain ⟨rfl, _⟩ := rep_sc.1 (rep_of0 h4)
      split at hk
      · rename_i he
        obtain rfl := eqK_of he
        obtain ⟨nt, tm, m⟩ := σ
        refine fin_builtin (s := Builtin.min_ ats ty #[.int k x, .int k y]) ?_ ⟨E, _, _, .int k (min x y), h, rep_sc.2 ⟨rfl, rfl⟩, ?_, hk⟩ hn
        · rw [hex, hargs]; rfl
        · simp only [Builtin.min_, Builtin.min2, List.foldlM, Sem.run_bind, Sem.run_pure, Result.andThen_ok]
          congr 2
          split <;> omega
      · exact hk.elim
    · exact hk.elim
  · -- max
    split at hk
    · rename_i k x k' y
      obtain ⟨u, us, h1, h2, u2, us2, h3, h4, h5⟩ := ha
      have h5 : us2 = [] := h5
      have hargs : args.map a.eval = #[u, u2] := arr2 (by rw [Array.toList_map, h1, h3, h5])
      obtain ⟨rfl, _⟩ := rep_sc.1 (rep_of0 h2)
      obtain ⟨rfl, _⟩ := rep_sc.1 (rep_of0 h4)
      split at hk
      · rename_i he
        obtain rfl := eqK_of he
        obtain ⟨nt, tm, m⟩ := σ
        refine fin_builtin (s := Builtin.max_ ats ty #[.int k x, .int k y]) ?_ ⟨E, _, _, .int k (max x y), h, rep_sc.2 ⟨rfl, rfl⟩, ?_, hk⟩ hn
        · rw [hex, hargs]; rfl
        · simp only [Builtin.max_, Builtin.max2, List.foldlM, Sem.run_bind, Sem.run_pure, Result.andThen_ok]
          congr 2
          split <;> omega
      · exact hk.elim
    · exact hk.elim
  · -- cap
    split at hk
    · rename_i sh xs t hts
      obtain ⟨u, us, h1, h2, h3⟩ := ha
      have h3 : us = [] := h3
      have hargs : args.map a.eval = #[u] := arr1 (by rw [Array.toList_map, h1, h3])
      have hats := arr1 hts
      split at hk
      · rename_i e _ _ _ ht
        obtain ⟨dd, i, z, t1, _, _, _, t4, _⟩ := (hT t _ ht).fact
        obtain ⟨_, rfl⟩ := t4
        obtain ⟨ad, c, rfl, g2, g3, _⟩ := rep_sl (rep_of0 h2)
        have hc := g3 rfl
        subst hc
        obtain ⟨nt, tm, m⟩ := σ
        refine fin_builtin (s := Builtin.cap_ #[t] ty #[.slice ad xs.length xs.length]) ?_ ⟨E, _, _, .int .i64 (xs.length : Int), h, rep_sc.2 ⟨rfl, rfl⟩, ?_, hk⟩ hn
        · rw [hex, hargs, hats]
          rfl
        · simp [Builtin.cap_, run_underlying' t1, goInt]
      · exact hk.elim
    · rename_i id p sh off len cap t hts
      obtain ⟨u, us, h1, h2, h3⟩ := ha
      have h3 : us = [] := h3
      have hargs : args.map a.eval = #[u] := arr1 (by rw [Array.toList_map, h1, h3])
      have hats := arr1 hts
      split at hk
      · rename_i e _ _ _ ht
        obtain ⟨dd, i, z, t1, _, _, _, t4, _⟩ := (hT t _ ht).fact
        obtain ⟨_, rfl⟩ := t4
        obtain ⟨b, t2, o, n, o', _, _, _, _, _, _, _, rfl⟩ := rep_bs (rep_of0 h2)
        obtain ⟨nt, tm, m⟩ := σ
        refine fin_builtin (s := Builtin.cap_ #[t] ty #[.slice (some ⟨b, o', none⟩) len cap]) ?_ ⟨E, _, _, .int .i64 (cap : Int), h, rep_sc.2 ⟨rfl, rfl⟩, ?_, hk⟩ hn
        · rw [hex, hargs, hats]
          rfl
        · simp [Builtin.cap_, run_underlying' t1, goInt]
      · exact hk.elim
    · exact hk.elim
  · exact hk.elim

theorem fin_call {d : Option Nat} {f : Operand} {args : Array Operand} {ats : Array Nat} {ty : TypeId} {po : String} {af : Array Edge} {g : Option (Nat × Bool)} {a : Act} {w : World} {k : Nat} {cus : Array Value} {nt : Nat} {tm : List (Nat × AV)} {K : AS → Prop} {next : Act → World → Prop} {Q : Exit → Act → World → Prop}
    (hf : a.eval f = .func (.func k) #[] cus) (hc : CallsX P k (args.map a.eval ++ cus) w (CallRes D B nt tm a.tmps d K)) (hn : NextOK D B a next K) : Oper.wp P ⟨d, .call ⟨.value f, args, ats⟩, ty, po, af, g⟩ a w next Q := by
  have fin : ∀ v w', CallRes D B nt tm a.tmps d K v w' → next (a.put d v) w' := by
    rintro v w' ⟨E', m', r, rfl, h1, h2, h3⟩
    obtain ⟨σ', g1, g2⟩ := Sim.put h1 h2 h3
    exact hn E' σ' _ g2 (Act.put_defers _ _ _) g1
  have hex : (execOp a.eval ⟨d, .call ⟨.value f, args, ats⟩, ty, po, af, g⟩).run P w = (callFunc k (args.map a.eval ++ cus)).run P w := by
    simp [execOp, resolve, hf, Deferred.ofValue, invoke]
  unfold Oper.wp
  rw [hex]
  rcases hc with ⟨fn, h1, h2, h3, h4⟩ | ⟨v, w', h1, h2⟩
  · have : (callFunc k (args.map a.eval ++ cus)).run P w = .ok (.enter k (args.map a.eval ++ cus)) w := by
      have h2' : fn.name ≠ "runtime.NumGoroutine" := by simpa using h2
      have h3' : fn.body ≠ none := by intro e; simp [e] at h3
      simp [callFunc, h1, h2', h3']
    rw [this, Oper.upon_enter]
    refine h4.mono fun e w' ⟨v, he, hR⟩ => ?_
    subst he
    exact fin v w' hR
  · rw [h1, Oper.upon_value]
    exact fin v w' h2

theorem wOp_ok (hT : TabOK P D) {o : Oper} {a : Act} {E : Env} {σ : AS} {K : AS → Prop} {next : Act → World → Prop} {Q : Exit → Act → World → Prop} (h : Sim D B E σ a.tmps) (hk : wOp D (FnOK P D) o σ K) (hn : NextOK D B a next K) : o.wp P a E.w next Q := by
  by_cases hc : ∃ c, o.op = .call c
  · obtain ⟨c, hc⟩ := hc
    obtain ⟨nt, tm, bx, lv, nx⟩ := σ
    obtain ⟨d, op, ty, po, af, g⟩ := o
    simp only at hc
    subst hc
    obtain ⟨cal, args, ats⟩ := c
    simp only [wOp] at hk
    split at hk
    · rename_i f
      split at hk
      · rename_i k caps hf
        split at hk
        · rename_i as has
          split at hk
          · rename_i hl
            obtain ⟨us, h1, h2⟩ := eval_ok hT h hf
            simp only [List.cons.injEq, and_true] at h2
            have hcap := (irs_lf hl).1 h1
            have := wCall_ok h (repL_append (evalA_ok hT h _ _ _ has) hcap) hk
            refine fin_call (nt := nt) (tm := tm) h2 ?_ hn
            have e : (args.toList.map a.eval ++ us).toArray = args.map a.eval ++ us.toArray := Array.ext' (by simp)
            rw [← e]
            exact this
          · exact hk.elim
        · exact hk.elim
      · exact hk.elim
    · rename_i b
      split at hk
      · rename_i as has
        exact wBuiltin_ok hT h (evalA_ok hT h _ _ _ has) hk hn
      · exact hk.elim
    · exact hk.elim
  · exact wOp1_ok hT h hk hn fun c hc' => hc ⟨c, hc'⟩
theorem wSp_ok (hT : TabOK P D) {d : Option Nat} {op : Op} {ty : TypeId} {po : String} {af : Array Edge} {g : Option (Nat × Bool)} {a : Act} {E : Env} {σ : AS} {K : AS → Prop} {next : Act → World → Prop} {Q : Exit → Act → World → Prop} (h : Sim D B E σ a.tmps) (hk : wSp D (FnOK P D) d op σ K) (hn : NextOK D B a next K) : Oper.wp P ⟨d, op, ty, po, af, g⟩ a E.w next Q := by
  obtain ⟨nt, tm, bx, lv, nx⟩ := σ
  unfold wSp at hk
  simp only at hk
  split at hk
  · rename_i cal args ats
    split at hk
    · rename_i f
      split at hk
      · rename_i k caps hf
        split at hk
        · rename_i as has
          split at hk
          · rename_i hl
            obtain ⟨us, h1, h2⟩ := eval_ok hT h hf
            simp only [List.cons.injEq, and_true] at h2
            have hcap := (irs_lf hl).1 h1
            have := wCallL_ok h (repL_append (evalA_ok hT h _ _ _ has) hcap) hk
            refine fin_call (nt := nt) (tm := tm) h2 ?_ hn
            have e : (args.toList.map a.eval ++ us).toArray = args.map a.eval ++ us.toArray := Array.ext' (by simp)
            rw [← e]
            exact this
          · exact hk.elim
        · exact hk.elim
      · exact hk.elim
    · split at hk
      · rename_i as has
        have ha := evalA_ok hT h _ _ _ has
        split at hk
        · rename_i s x t t2 hts
          obtain ⟨u, us, h1, h2, u2, us2, h3, h4, h5⟩ := ha
          have h5 : us2 = [] := h5
          have hargs : args.map a.eval = #[u, u2] := arr2 (by rw [Array.toList_map, h1, h3, h5])
          have hats := arr2 hts
          refine fin_builtin (s := Builtin.append_ #[t, t2] ty #[u, u2]) ?_ (wAppB_ok hT h (rep_of0 h2) (rep_of0 h4) hk) hn
          rw [show execOp a.eval ⟨d, .call ⟨.builtin .append, args, ats⟩, ty, po, af, g⟩ = builtin .append ats ty (args.map fun | .const _ => true | _ => false) (args.map a.eval) from rfl, hargs, hats]
          rfl
        · exact hk.elim
      · exact hk.elim
    · exact hk.elim
  · rename_i t x o
    split at hk
    · rename_i s xs hx
      split at hk
      · rename_i hv hh
        obtain ⟨v, r, g1, g2, g3⟩ := wSliceX_ok hT h (eval_ok hT h hx) (hi' := some (a.eval o)) ⟨_, rfl, eval_ok hT h hh⟩ hk
        exact fin_same rfl g3 h g2 g1 hn
      · exact hk.elim
    · exact hk.elim
  · exact hk.elim

end
end Go.WL
namespace Go.WL
section
variable {P : Program} {D : Tabs} {B : Base}

theorem yielded_of {ops : Array Oper} {tmps : Array Value} {j t : Nat} {b : Bool} (hd : dstOf ops.toList j = some t) (hv : tmps.getD t undef = .bool b) : yielded ops tmps j = some b := by
  unfold dstOf at hd
  unfold yielded
  have ho : ∃ o, ops[j]? = some o ∧ o.dst = some t := by
    rw [Array.getElem?_toList] at hd
    split at hd
    · rename_i d _ _ _ _ _ he
      subst hd
      exact ⟨_, he, rfl⟩
    · simp at hd
  obtain ⟨o, h1, h2⟩ := ho
  rw [h1]
  simp only [Option.bind_some, h2]
  have : tmps[t]? = some (.bool b) := by
    rw [Array.getD_eq_getD_getElem?] at hv
    cases h : tmps[t]? with
    | none => rw [h] at hv; simp [undef] at hv
    | some v => rw [h] at hv; simp at hv; rw [hv]
  rw [this]

theorem rep_tup0 {E : Env} {shs : List Shape} {u : Value} (h : Rep E shs (.tup []) u) : u = undef := by
  obtain ⟨us, rfl, h⟩ := h
  rw [show us = [] from h]
  rfl
theorem yielded_none {ops : Array Oper} {tmps : Array Value} {j t : Nat} (hd : dstOf ops.toList j = some t) (hv : tmps.getD t undef = undef) : yielded ops tmps j = none := by
  unfold dstOf at hd
  unfold yielded
  have ho : ∃ o, ops[j]? = some o ∧ o.dst = some t := by
    rw [Array.getElem?_toList] at hd
    split at hd
    · rename_i d _ _ _ _ _ he
      subst hd
      exact ⟨_, he, rfl⟩
    · simp at hd
  obtain ⟨o, h1, h2⟩ := ho
  rw [h1]
  simp only [Option.bind_some, h2]
  rw [Array.getD_eq_getD_getElem?] at hv
  cases h : tmps[t]? with
  | none => rfl
  | some v =>
    rw [h] at hv
    simp only [Option.getD_some] at hv
    subst hv
    rfl
/-- An empty slice with room: a row of its own. -/
theorem make0_ok (hT : TabOK P D) {E : Env} {nt : Nat} {tm : List (Nat × AV)} {bx : List (AV × Bool)} {lv : List Nat} {nx : Nat} {tmps : Array Value} (h : Sim D B E ⟨nt, tm, ⟨bx, lv, nx⟩⟩ tmps) {t e : Nat} {sh : Shape} {z : AV} {k : TK} {by_ : Nat} (he : lookT D.ty e = some ⟨k, sh, by_, z⟩) (ht : P.underlying t = some (.slice e)) (hb : by_ ≤ 4096)
    {k1 k2 : IntKind} {c : Int} (h0 : 0 ≤ c) (hc : c < 4294967296) :
    ∃ E' r, Sim D B E' ⟨nt, tm, ⟨bx, nx :: lv, nx + 1⟩⟩ tmps ∧ Rep E' (shsOf bx) (.sl sh [] (.own nx)) r ∧ (Instr.makeSlice t (.int k1 0) (.int k2 c)).run P E.w = .ok r E'.w := by
  obtain ⟨d, i, zv, h1, h2, h3, h4, h5, h6, h7, h8, h9⟩ := (hT e _ he).fact
  simp only at h7 h8 h3 h4
  have hnx : E.nx = nx := h.nx
  generalize hC : (Array.range (c.toNat * sh.size)).map ((if c.toNat * sh.size = 0 then #[] else zv.cells)[· % (if c.toNat * sh.size = 0 then #[] else zv.cells).size]!) = C
  have hCs : C.size = c.toNat * sh.size := by rw [← hC]; simp
  have a1 := h.alloc C e (0, 0) 0 (Nat.zero_le _)
  have hN : (E.alloc C e (0, 0) 0).w.heap[E.w.heap.size]? = some (.cells C e (0, 0)) := Env.alloc_new
  have a2 := a1.claim (.grow E.w.heap.size) (by simp) (fun b hb' => by
    simp only [RowSt.grow.injEq] at hb'
    subst hb'
    refine ⟨⟨_, _, _, hN, .inr (Nat.le_refl _)⟩, ?_, fun hlt => ?_⟩
    · intro hm
      have hm' : E.w.heap.size ∈ claims E lv := hm
      have := (h.m.lt hm').lt
      omega
    · have := h.fb.size; omega)
  have hrow : ((E.alloc C e (0, 0) 0).claim (.grow E.w.heap.size)).row nx = .grow E.w.heap.size := by
    have e1 : (E.alloc C e (0, 0) 0).nx = nx := hnx
    simp [Env.claim, e1, upd_at]
  have hnx2 : (E.alloc C e (0, 0) 0).nx = nx := hnx
  refine ⟨_, .slice (some ⟨E.w.heap.size, 0, none⟩) 0 c.toNat, by simpa [hnx2] using a2, ⟨⟨some ⟨E.w.heap.size, 0, none⟩, c.toNat, rfl, Nat.zero_le _, fun k => by simp at k, fun x hx => by simp at hx, by simp, .inl rfl⟩, fun r hr => ?_⟩, ?_⟩
  · simp only [Mark.own.injEq] at hr
    subst hr
    refine ⟨by simp [Env.claim, Env.alloc, hnx], fun a' n' c' he => ?_⟩
    simp only [List.cons.injEq, Value.slice.injEq, and_true] at he
    obtain ⟨rfl, rfl, rfl⟩ := he
    rw [hrow]
    refine ⟨0, _, _, _, rfl, ?_, hN, ?_⟩
    · show (E.alloc C e (0, 0) 0).lim E.w.heap.size = _
      rw [Env.alloc_limN]; simp
    · rw [hCs]; omega
  · have w2 : IntKind.i64.wrap c = c := by
      simp only [IntKind.wrap, IntKind.signed, IntKind.bits]
      have : c % (2 ^ 64 : Int) = c := Int.emod_eq_of_lt (by omega) (by omega)
      simp only [this]
      rw [if_neg]
      simp; omega
    have w1 : IntKind.i64.wrap 0 = 0 := by decide
    have hbc : (i.bytes : Int) * c ≤ 2 ^ 48 := by
      rw [h4]
      have h5 : (by_ : Int) * c ≤ 4096 * c := Int.mul_le_mul_of_nonneg_right (by omega) (by omega)
      omega
    have hcond : ((decide (c < 0) || decide ((i.bytes : Int) * c > 2 ^ 48)) || decide ((0 : Int) < 0) || decide ((0 : Int) > c)) = false := by
      simp only [Bool.or_eq_false_iff, decide_eq_false_iff_not]
      refine ⟨⟨⟨by omega, by omega⟩, by omega⟩, by omega⟩
    unfold Instr.makeSlice
    simp only [Sem.run_bind, run_underlying' ht, Result.andThen_ok, asInt, asIntOf, Sem.run_pure, run_typeInfo' h2, w1, w2, hcond, Bool.false_eq_true, if_false, run_askRoom, run_sizeOf' h2, h3]
    by_cases hz : c.toNat * sh.size = 0
    · rw [if_pos hz] at hC
      simp only [hz, if_true, Sem.run_pure, Result.andThen_ok, newRow, Sem.run_bind, run_newObj]
      rw [← hC]
      simp [hz]
      rfl
    · rw [if_neg hz] at hC
      simp only [hz, if_false, Sem.run_bind, run_zeroValue' h2 h6, Sem.run_pure, Result.andThen_ok, newRow, run_newObj]
      rw [hC]
      rfl

/-- A constant text's bytes: a row laid, and marked. -/
theorem lit_ok (hT : TabOK P D) {bt : Bool} {ops : Array Oper} {Q : Exit → Act → World → Prop} {l : List Oper} {E : Env} {nt : Nat} {tm : List (Nat × AV)} {m : Mem} {a : Act} {d1 d2 t n ty ty2 : Nat} {ps : Array (Nat × Operand)} {po po2 : String} {af af2 : Array Edge} {K : AS → Prop}
    (h : Sim D B E ⟨nt, tm, m⟩ a.tmps) (hk : wOp D (FnOK P D) ⟨some d1, .buildSlice t n ps, ty, po, af, none⟩ ⟨nt, tm, m⟩ fun σ' => textK D bt d1 d2 t σ' K)
    (hn : ∀ E' σ' a', Sim D B E' σ' a'.tmps → a'.defers = a.defers → K σ' → wpList P ops Q l a' E'.w) :
    wpList P ops Q (⟨some d1, .buildSlice t n ps, ty, po, af, none⟩ :: ⟨some d2, .convert t t (.tmp d1), ty2, po2, af2, none⟩ :: l) a E.w := by
  simp only [wOp] at hk
  obtain ⟨e, sh, by_, i, zv, hk, e1, e2, e3, e4, e5, kd, za, e6⟩ := slc_fact hT hk
  split at hk
  · exact hk.elim
  rename_i hle
  rw [e6] at hk
  simp only at hk
  obtain ⟨vs, hk, hp⟩ := evalP_ok hT h _ _ hk
  split at hk
  rotate_left
  · exact hk.elim
  rename_i hsp
  obtain ⟨xs, cells, g1, g2, g4⟩ := buildSlice_ok hT h e6 e1 (Nat.le_of_ble_eq_true hle) hp hsp hk
  simp only [AS.put] at g1
  split at g1
  rotate_left
  · exact g1.elim
  rename_i hd1
  simp only [textK] at g1
  split at g1
  rotate_left
  · exact g1.elim
  rename_i e' _ _ _ ht
  split at g1
  rotate_left
  · exact g1.elim
  rename_i he'
  obtain ⟨_, _, _, t1, _, _, _, t4, _⟩ := (hT t _ ht).fact
  obtain ⟨_, rfl⟩ := t4
  have ee : e' = e := by
    rw [e1] at t1
    simpa using t1.symm
  subst ee
  obtain ⟨_, _, _, u1, _, _, _, u4, _⟩ := (hT e' _ he').fact
  obtain ⟨_, rfl⟩ := u4
  have hl : lookV ((d1, AV.sl sh xs .ex) :: tm) d1 = some (.sl sh xs .ex) := by simp [lookV]
  rw [hl] at g1
  simp only at g1
  have p1 : AS.put ⟨nt, tm, m⟩ (some d1) (.sl sh xs .ex) (fun σ => σ = ⟨nt, (d1, .sl sh xs .ex) :: tm, m⟩) := by simp only [AS.put, hd1]
  obtain ⟨s1, s2⟩ := g2 (cells.size, cells.size + 1)
  obtain ⟨_, rfl, h1⟩ := Sim.put (d := some d1) s1 (s2 .ex (by simp)) p1
  have g1' : ∃ mk : Mark, (∀ r, mk ≠ .own r) ∧ AS.put ⟨nt, (d1, .sl sh xs .ex) :: tm, m⟩ (some d2) (.sl sh xs mk) K := by
    cases bt with
    | true => exact ⟨.ex, by simp, g1⟩
    | false => exact ⟨.ro, by simp, g1⟩
  obtain ⟨mk, hmk, g1⟩ := g1'
  obtain ⟨σ', hσ, h2⟩ := Sim.put (d := some d2) h1 (s2 mk hmk) g1
  unfold wpList
  rw [if_pos (show Region.wanted ⟨some d1, .buildSlice t n ps, ty, po, af, none⟩ (yielded ops a.tmps) = true from rfl)]
  left
  unfold Oper.wp
  have x1 : (execOp a.eval ⟨some d1, .buildSlice t n ps, ty, po, af, none⟩).run P E.w = .ok (.value (.slice (some ⟨E.w.heap.size, 0, none⟩) n n)) (E.alloc cells e' (0, 0) cells.size).w := by
    simp only [execOp, Sem.run_bind, g4]; rfl
  rw [x1]
  show wpList P ops Q _ (a.put (some d1) _) _
  unfold wpList
  rw [if_pos (show Region.wanted ⟨some d2, .convert t t (.tmp d1), ty2, po2, af2, none⟩ (yielded ops (a.put (some d1) (.slice (some ⟨E.w.heap.size, 0, none⟩) n n)).tmps) = true from rfl)]
  left
  unfold Oper.wp
  have hv : (a.put (some d1) (.slice (some ⟨E.w.heap.size, 0, none⟩) n n)).eval (.tmp d1) = .slice (some ⟨E.w.heap.size, 0, none⟩) n n := by
    have hlt : d1 < a.tmps.size := by
      have := h.sz
      have := Nat.le_of_ble_eq_true hd1
      simp only at *
      omega
    simp [Act.eval, Act.put, hlt]
  have x2 : (execOp (a.put (some d1) (.slice (some ⟨E.w.heap.size, 0, none⟩) n n)).eval ⟨some d2, .convert t t (.tmp d1), ty2, po2, af2, none⟩).run P (E.alloc cells e' (0, 0) cells.size).w =
      .ok (.value (.slice (some ⟨E.w.heap.size, 0, none⟩) n n)) (E.alloc cells e' (cells.size, cells.size + 1) cells.size).w := by
    have hsh : (E.alloc cells e' (0, 0) cells.size).w.shape? E.w.heap.size = some (e', cells.size) := by
      simp only [World.shape?, Env.alloc_new]
    have hfr : (E.alloc cells e' (0, 0) cells.size).w.freeze ⟨E.w.heap.size, cells.size, none⟩ 1 = (E.alloc cells e' (cells.size, cells.size + 1) cells.size).w := by
      simp only [World.freeze, Env.alloc, Nat.one_ne_zero, if_false, World.mk.injEq, and_true]
      apply Array.ext_getElem?
      intro i
      simp only [Array.getElem?_modify, Array.getElem?_push]
      by_cases hi : E.w.heap.size = i
      · subst hi; simp
      · simp [hi, Ne.symm hi]
    have hc : (convert t t (.slice (some ⟨E.w.heap.size, 0, none⟩) n n)).run P (E.alloc cells e' (0, 0) cells.size).w = .ok (.slice (some ⟨E.w.heap.size, 0, none⟩) n n) (E.alloc cells e' (cells.size, cells.size + 1) cells.size).w := by
      simp only [convert, Sem.run_bind, run_underlying' t1, Result.andThen_ok, run_underlying' u1, beq_self_eq_true, markStringish, shape, Sem.run, hsh, Sem.run_pure, freeze, hfr]
    simp only [execOp, Sem.run_bind, hv]
    rw [hc]
    rfl
  rw [x2]
  exact hn _ σ' _ h2 (by rw [Act.put_defers, Act.put_defers]) hσ

theorem wOps_ok (hT : TabOK P D) {sp : List Nat} {ops : Array Oper} {Q : Exit → Act → World → Prop} : ∀ (l : List Oper) (E : Env) (σ : AS) (a : Act) (K : AS → Prop), Sim D B E σ a.tmps → wOps D (FnOK P D) sp ops.toList l none σ K →
    (∀ E' σ' a', Sim D B E' σ' a'.tmps → a'.defers = a.defers → K σ' → Q .normal a' E'.w) → wpList P ops Q l a E.w
  | [], E, σ, a, K, h, hk, hQ => hQ E σ a h rfl hk
  | ⟨d, op, ty, po, af, g⟩ :: l, E, σ, a, K, h, hk, hQ => by
    have run : Region.wanted ⟨d, op, ty, po, af, g⟩ (yielded ops a.tmps) = true → (wOp D (FnOK P D) ⟨d, op, ty, po, af, g⟩ σ fun σ' => wOps D (FnOK P D) sp ops.toList l none σ' K) → wpList P ops Q (⟨d, op, ty, po, af, g⟩ :: l) a E.w := by
      intro hw hk
      unfold wpList
      rw [if_pos hw]
      exact .inl (wOp_ok hT h hk fun E' σ' a' h' hd hk' => wOps_ok hT l E' σ' a' K h' hk' fun E2 σ2 a2 h2 hd2 hk2 => hQ E2 σ2 a2 h2 (hd2.trans hd) hk2)
    have runS : Region.wanted ⟨d, op, ty, po, af, g⟩ (yielded ops a.tmps) = true → (match isSp sp d op with | true => wSp D (FnOK P D) d op σ fun σ' => wOps D (FnOK P D) sp ops.toList l none σ' K | false => wOp D (FnOK P D) ⟨d, op, ty, po, af, g⟩ σ fun σ' => wOps D (FnOK P D) sp ops.toList l none σ' K) → wpList P ops Q (⟨d, op, ty, po, af, g⟩ :: l) a E.w := by
      intro hw hk
      split at hk
      · unfold wpList
        rw [if_pos hw]
        exact .inl (wSp_ok hT h hk fun E' σ' a' h' hd hk' => wOps_ok hT l E' σ' a' K h' hk' fun E2 σ2 a2 h2 hd2 hk2 => hQ E2 σ2 a2 h2 (hd2.trans hd) hk2)
      · exact run hw hk
    have skip : Region.wanted ⟨d, op, ty, po, af, g⟩ (yielded ops a.tmps) = false → wOps D (FnOK P D) sp ops.toList l none (σ.drop d) K → wpList P ops Q (⟨d, op, ty, po, af, g⟩ :: l) a E.w := by
      intro hw hk
      unfold wpList
      rw [if_neg (by rw [hw]; simp)]
      exact wOps_ok hT l E (σ.drop d) (a.put d undef) K h.drop hk fun E2 σ2 a2 h2 hd2 hk2 => hQ E2 σ2 a2 h2 (hd2.trans (Act.put_defers _ _ _)) hk2
    cases g with
    | none =>
      replace hk : (match litText d op l with
        | none => match make0 op with
          | none => match isSp sp d op with
            | true => wSp D (FnOK P D) d op σ fun σ' => wOps D (FnOK P D) sp ops.toList l none σ' K
            | false => wOp D (FnOK P D) ⟨d, op, ty, po, af, none⟩ σ fun σ' => wOps D (FnOK P D) sp ops.toList l none σ' K
          | some (t, c) => wMake0 D d t c σ fun σ' => wOps D (FnOK P D) sp ops.toList l none σ' K
        | some q => wOp D (FnOK P D) ⟨d, op, ty, po, af, none⟩ σ fun σ' => wOps D (FnOK P D) sp ops.toList l (some q) σ' K) := hk
      split at hk
      · split at hk
        · split at hk
          · unfold wpList
            rw [if_pos (show Region.wanted ⟨d, op, ty, po, af, none⟩ (yielded ops a.tmps) = true from rfl)]
            exact .inl (wSp_ok hT h hk fun E' σ' a' h' hd hk' => wOps_ok hT l E' σ' a' K h' hk' fun E2 σ2 a2 h2 hd2 hk2 => hQ E2 σ2 a2 h2 (hd2.trans hd) hk2)
          · exact run rfl hk
        · rename_i t c hm0
          unfold make0 at hm0
          split at hm0
          rotate_left
          · simp at hm0
          rename_i k1 c0 _
          simp only [Option.some.injEq, Prod.mk.injEq] at hm0
          obtain ⟨rfl, rfl⟩ := hm0
          obtain ⟨nt, tm, bx, lv, nx⟩ := σ
          simp only [wMake0] at hk
          obtain ⟨e, sh, by_, i, zv, hk, e1, e2, e3, e4, e5, kd, za, e6⟩ := slc_fact hT hk
          split at hk
          rotate_left
          · exact hk.elim
          rename_i k2 c hc
          split at hk
          rotate_left
          · exact hk.elim
          rename_i hb
          obtain ⟨h0, h1, hk⟩ := hk
          have hk := litK_of hk
          obtain ⟨E', r, g1, g2, g3⟩ := make0_ok (P := P) hT h e6 e1 (Nat.le_of_ble_eq_true hb) (k1 := k1) (k2 := k2) h0 h1
          obtain ⟨l2, _⟩ := rep_sc.1 (eval_ok hT h hc)
          unfold wpList
          rw [if_pos (show Region.wanted ⟨d, _, ty, po, af, none⟩ (yielded ops a.tmps) = true from rfl)]
          refine .inl (fin_val (E' := E') (by simp only [execOp, Sem.run_bind, l2]; rw [show a.eval (.const (.int k1 (.ofNat 0))) = .int k1 0 from rfl, g3]; rfl) g1 g2 hk fun E' σ' a' h' hd hk' => ?_)
          exact wOps_ok hT l E' σ' a' K h' hk' fun E2 σ2 a2 h2 hd2 hk2 => hQ E2 σ2 a2 h2 (hd2.trans hd) hk2
      · rename_i q hlit
        cases l with
        | nil =>
          unfold litText at hlit
          split at hlit <;> simp at hlit
        | cons o l' =>
          unfold litText at hlit
          split at hlit
          rotate_left
          · simp at hlit
          split at hlit
          rotate_left
          · simp at hlit
          split at hlit
          rotate_left
          · simp at hlit
          split at hlit
          rotate_left
          · simp at hlit
          rename_i hc
          simp only [Bool.and_eq_true] at hc
          obtain ⟨⟨q1, q2⟩, q3⟩ := hc
          have q1 := Nat.eq_of_beq_eq_true q1
          have q2 := Nat.eq_of_beq_eq_true q2
          have q3 := Nat.eq_of_beq_eq_true q3
          simp only [Option.some.injEq] at hlit
          obtain ⟨he, _⟩ := List.cons.inj ‹o :: l' = _ :: _›
          subst hlit q1 q2 q3 he
          obtain ⟨nt, tm, m⟩ := σ
          exact lit_ok (K := fun σ'' => wOps D (FnOK P D) sp ops.toList l' none σ'' K) hT h hk fun E' σ' a' h' hd' hk' => wOps_ok hT l' E' σ' a' K h' hk' fun E2 σ2 a2 h2 hd2 hk2 => hQ E2 σ2 a2 h2 (hd2.trans hd') hk2
    | some jw =>
      obtain ⟨j, want⟩ := jw
      rw [wOps_cons] at hk
      simp only at hk
      cases hd : dstOf ops.toList j with
      | none => simp [hd] at hk
      | some t =>
        simp only [hd] at hk
        split at hk
        · rename_i b hv
          obtain ⟨hr, _⟩ := rep_sc.1 (h.tm t _ hv)
          have hy := yielded_of hd hr
          cases want with
          | true =>
            cases b with
            | true => exact runS (by simp [Region.wanted, hy]) hk
            | false => exact skip (by simp [Region.wanted, hy]) hk
          | false =>
            cases b with
            | true => exact skip (by simp [Region.wanted, hy]) hk
            | false => exact runS (by simp [Region.wanted, hy]) hk
        · rename_i hv
          have hy := yielded_none hd (rep_tup0 (h.tm t _ hv))
          exact skip (by simp [Region.wanted, hy]) hk
        · exact hk.elim

theorem keepT_of : ∀ (keep : List Nat) (tm tm' : List (Nat × AV)), keepT tm keep = some tm' → ∀ t v, lookV tm' t = some v → lookV tm t = some v
  | [], tm, tm', h, t, v, hv => by
    simp only [keepT, Option.some.injEq] at h
    subst h
    simp [lookV] at hv
  | k :: l, tm, tm', h, t, v, hv => by
    simp only [keepT] at h
    split at h
    · rename_i u hu
      split at h
      · rename_i r hr
        simp only [Option.some.injEq] at h
        subst h
        simp only [lookV] at hv
        split at hv
        · rename_i e
          rw [Nat.eq_of_beq_eq_true e] at hu
          rw [hu]
          exact hv
        · exact keepT_of l tm r hr t v hv
      · simp at h
    · simp at h
theorem rentK_of {g : Nat → Nat} : ∀ (l : List (Nat × AV)) (K : List (Nat × AV) → Prop), rentK g l K → K (l.map fun x => (x.1, x.2.ren (fun i => i) g))
  | [], _, h => h
  | (t, v) :: l, K, h => rentK_of l (fun l' => K ((t, v.ren (fun i => i) g) :: l')) (renK_of v _ h)
theorem renbK_of {g : Nat → Nat} : ∀ (l : List (AV × Bool)) (K : List (AV × Bool) → Prop), renbK g l K → K (l.map fun x => (x.1.ren (fun i => i) g, x.2))
  | [], _, h => h
  | (v, f) :: l, K, h => renbK_of l (fun l' => K ((v.ren (fun i => i) g, f) :: l')) (renK_of v _ h)
theorem lookV_map {g : AV → AV} : ∀ (l : List (Nat × AV)) (t : Nat) (v : AV), lookV (l.map fun x => (x.1, g x.2)) t = some v → ∃ u, lookV l t = some u ∧ v = g u
  | [], t, v, h => by simp [lookV] at h
  | (k, x) :: l, t, v, h => by
    simp only [List.map_cons, lookV] at h ⊢
    split at h
    · simp only [Option.some.injEq] at h
      exact ⟨x, rfl, h.symm⟩
    · exact lookV_map l t v h
theorem lookV_mem : ∀ (l : List (Nat × AV)) (t : Nat) (v : AV), lookV l t = some v → v ∈ l.map (·.2)
  | [], t, v, h => by simp [lookV] at h
  | (k, x) :: l, t, v, h => by
    simp only [lookV] at h
    split at h
    · simp only [Option.some.injEq] at h; subst h; simp
    · simp only [List.map_cons, List.mem_cons]; exact .inr (lookV_mem l t v h)

def Env.norm (E : Env) (R : List Nat) (nb : Nat) : Env := ⟨E.w, E.lim, E.bx.take nb, fun k => E.row (nthD R k), R.length⟩

theorem take_pre {α : Type} {l m : List α} {n : Nat} (h : l <+: m) (hn : l.length ≤ n) : l <+: m.take n := by
  obtain ⟨r, rfl⟩ := h
  rw [List.take_append, List.take_of_length_le hn]
  exact List.prefix_append _ _

theorem norm_ok {E : Env} {σ : AS} {tmps : Array Value} {keep : List Nat} {nb : Nat} {K : AS → Prop} (h : Sim D B E σ tmps) (hb1 : B.bx.length ≤ nb) (hb2 : B.shs.length ≤ nb) (hk : norm keep nb σ K) : ∃ E' σ', E'.w = E.w ∧ Sim D B E' σ' tmps ∧ K σ' ∧ σ'.m.bx.length = nb := by
  obtain ⟨nt, tm0, bx, lv, nx⟩ := σ
  simp only [norm] at hk
  cases hkt : keepT tm0 keep with
  | none => simp [hkt] at hk
  | some tm =>
    simp only [hkt] at hk
    generalize hR : AV.rowss (tm.map (·.2)) ++ AV.rowss ((bx.take nb).map (·.1)) = R at hk
    cases hc : allMemb lv R && noDup R && allLt nb (AV.idss (tm.map (·.2)) ++ AV.idss ((bx.take nb).map (·.1))) && Nat.ble nb bx.length with
    | false => rw [hc] at hk; exact hk.elim
    | true =>
      rw [hc] at hk
      have hk := rentK_of _ _ hk
      have hk := renbK_of _ _ hk
      have hk := litK_of hk
      have hk := litsK_of _ _ hk
      simp only [Bool.and_eq_true] at hc
      obtain ⟨⟨⟨c1, c2⟩, c3⟩, c4⟩ := hc
      have c1 := allMemb_of _ _ c1
      have c2 := noDup_of _ c2
      have c3 := allLt_of _ _ c3
      have c4 := Nat.le_of_ble_eq_true c4
      have hm := h.m
      simp only at hm
      have hbl : E.bx.length = bx.length := hm.bxl
      have hsh : shsOf ((bx.take nb).map fun x => (x.1.ren (fun i => i) (fun k => posOf R k 0), x.2)) = (shsOf bx).take nb := by
        simp only [shsOf, List.map_map, List.map_take]
        congr 1
        exact List.map_congr_left fun x _ => shape_ren _ _ x.1
      have t : Tr E (E.norm R nb) (shsOf bx) ((shsOf bx).take nb) (fun i => i) (fun k => posOf R k 0) (AV.idss (tm.map (·.2)) ++ AV.idss ((bx.take nb).map (·.1))) R := by
        refine ⟨Ext.refl _ _, fun i hi => ⟨fun b hbi => ?_, fun s hs => ?_⟩, fun r hr _ => ?_⟩
        · simp only [Env.norm]
          rw [List.getElem?_take_of_lt (c3 i hi)]; exact hbi
        · rw [List.getElem?_take_of_lt (c3 i hi)]; exact hs
        · obtain ⟨h1, h2⟩ := posOf_at hr
          have h3 := nthD_at h2
          rw [h1] at h3
          refine ⟨h2, .inr ⟨?_, fun b hb cs ty fz hc => ⟨rfl, cs, ty, fz, hc, Nat.le_refl _⟩⟩⟩
          simp only [Env.norm]
          rw [← Option.some.inj h3]
      have hcl : claims (E.norm R nb) (List.range R.length) = E.bx.take nb ++ R.filterMap (rowBlk E) := by
        unfold claims
        congr 1
        have : R = (List.range R.length).map fun k => nthD R k := by
          apply List.ext_getElem?
          intro i
          by_cases hi : i < R.length
          · rw [nthD_at hi, List.getElem?_map, List.getElem?_range hi]; rfl
          · rw [List.getElem?_eq_none (by omega), List.getElem?_eq_none (by simp; omega)]
        conv => rhs; rw [this]
        rw [List.filterMap_map]
        rfl
      obtain ⟨k1, k2, k3⟩ := List.nodup_append.1 hm.nodup
      have hsub : ∀ b ∈ claims (E.norm R nb) (List.range R.length), b ∈ claims E lv := by
        intro b hbm
        rw [hcl] at hbm
        rcases List.mem_append.1 hbm with hbm | hbm
        · exact List.mem_append_left _ (List.mem_of_mem_take hbm)
        · obtain ⟨q, hq, he⟩ := List.mem_filterMap.1 hbm
          exact List.mem_append_right _ (List.mem_filterMap.2 ⟨q, c1 q hq, he⟩)
      refine ⟨E.norm R nb, _, rfl, ?_, hk, by simp; omega⟩
      refine ⟨h.sz, rfl, ⟨?_, fun id c f b h1 h2 => ?_, fun r hr => ?_, ?_, hm.lim, hm.glob⟩, ?_, fun t' v hv => ?_, ?_⟩
      · simp [Env.norm, hbl]
      · simp only at h1
        rw [hsh]
        rw [List.getElem?_map] at h1
        cases hi : (bx.take nb)[id]? with
        | none => simp [hi] at h1
        | some x =>
          obtain ⟨c0, f0⟩ := x
          simp only [hi, Option.map_some, Option.some.injEq, Prod.mk.injEq] at h1
          obtain ⟨rfl, rfl⟩ := h1
          have hmem : c0 ∈ (bx.take nb).map (·.1) := List.mem_map.2 ⟨_, List.mem_of_getElem? hi, rfl⟩
          have hlt : id < nb := by have := (List.getElem?_eq_some_iff.1 hi).1; simp at this; omega
          rw [List.getElem?_take_of_lt hlt] at hi
          simp only [Env.norm] at h2
          rw [List.getElem?_take_of_lt hlt] at h2
          obtain ⟨cs, ty, fz, g1, g2, g3, g4, g5⟩ := hm.box id c0 f0 b hi h2
          refine ⟨cs, ty, fz, g1, g2, IR_tr c0 _ (t.mono (fun i hi' => List.mem_append_right _ (idss_mem hmem hi')) (fun r hr => hR ▸ List.mem_append_right _ (rowss_mem hmem hr))) g3, fun e => ⟨?_, (g4 e).2⟩, g5⟩
          have hp := (g4 e).1
          obtain ⟨p1, p2⟩ := pure_none c0 hp
          rw [ren_none _ _ c0 p1 p2]
          exact hp
      · have hr' : r < R.length := List.mem_range.1 hr
        have hmem : nthD R r ∈ R := List.mem_of_getElem? (nthD_at hr')
        obtain ⟨g1, g2, g3⟩ := hm.row _ (c1 _ hmem)
        exact ⟨hr', g2, g3⟩
      · show (claims (E.norm R nb) (List.range R.length)).Nodup
        rw [hcl]
        refine List.nodup_append.2 ⟨k1.sublist (List.take_sublist _ _), fmap_nodup R c2 fun r r' b h1 h2 => fmap_inj lv r r' b k2 (c1 r h1) (c1 r' h2), fun x hx y hy => ?_⟩
        obtain ⟨q, hq, he⟩ := List.mem_filterMap.1 hy
        exact k3 x (List.mem_of_mem_take hx) y (List.mem_filterMap.2 ⟨q, c1 q hq, he⟩)
      · have hfb := h.fb
        exact ⟨hfb.os, hfb.tape, hfb.output, hfb.size, hfb.ext, hfb.same, fun b hb1 => hfb.cl b (hsub b hb1), take_pre hfb.pre hb1⟩
      · obtain ⟨u, hu, rfl⟩ := lookV_map (g := fun v => v.ren (fun i => i) (fun k => posOf R k 0)) _ _ _ hv
        have hmem := lookV_mem _ _ _ hu
        have hr := h.tm t' u (keepT_of _ _ _ hkt t' u hu)
        simp only
        rw [hsh]
        exact Rep_tr (t.mono (fun i hi => List.mem_append_left _ (idss_mem hmem hi)) (fun r hr => hR ▸ List.mem_append_left _ (rowss_mem hmem hr))) hr
      · show B.shs <+: shsOf _
        rw [hsh]
        exact take_pre h.shp hb2
end
end Go.WL
namespace Go.WL

def Env.exacts (E : Env) (k : Nat) : Env := { E with row := fun r => if r < E.nx then E.row r else .exact, nx := E.nx + k }
theorem tra_exacts (E : Env) (shs : List Shape) (k : Nat) : TrA E (E.exacts k) shs shs := by
  refine ⟨Ext.refl _ _, fun _ _ h => h, fun _ _ h => h, fun r hr => ⟨?_, .inr ⟨?_, fun b hb cs ty fz hc => ⟨rfl, cs, ty, fz, hc, Nat.le_refl _⟩⟩⟩⟩
  · simp only [Env.exacts]; omega
  · simp only [Env.exacts, if_pos hr]

def Canon (v v' : AV) (n m : Nat) : Prop := n ≤ m ∧ v'.shape = v.shape ∧ ∀ (E : Env) (shs : List Shape) (cs : List Value) (k : Nat), IR E shs v cs → E.nx ≤ n → m ≤ E.nx + k → IR (E.exacts k) shs v' cs
def Canons (xs ys : List AV) (n m : Nat) : Prop := n ≤ m ∧ AV.shapes ys = AV.shapes xs ∧ ∀ (E : Env) (shs : List Shape) (ps : List (List Value)) (k : Nat), IRs E shs xs ps → E.nx ≤ n → m ≤ E.nx + k → IRs (E.exacts k) shs ys ps
theorem Canon.refl (v : AV) (n : Nat) : Canon v v n n := ⟨Nat.le_refl _, rfl, fun E shs cs k h _ _ => (tra_exacts E shs k).ir h⟩
mutual
theorem canK_of : ∀ (v : AV) (n : Nat) (K : AV → Nat → Prop), canK v n K → ∃ v' m, K v' m ∧ Canon v v' n m
  | .st xs, n, K, h => by
    obtain ⟨ys, m, h1, h2, h3, h4⟩ := cansK_of xs n _ (by simpa only [canK] using h)
    refine ⟨.st ys, m, h1, h2, by simp only [AV.shape, h3], fun E shs cs k hi h5 h6 => ?_⟩
    obtain ⟨ps, g1, g2⟩ := hi
    exact ⟨ps, h4 E shs ps k g1 h5 h6, g2⟩
  | .sl s xs .ex, n, K, h => by
    simp only [canK] at h
    have h := litK_of h
    have h := litK_of h
    refine ⟨_, _, h, Nat.le_succ n, rfl, fun E shs cs k hi h5 h6 => ?_⟩
    obtain ⟨⟨a, c, g1, g2, g3, g4, g5, g6⟩, _⟩ := hi
    have hc := g3 rfl
    refine ⟨⟨a, c, g1, g2, fun e => by simp at e, g4, g5, g6⟩, fun r hr => ?_⟩
    simp only [Mark.own.injEq] at hr
    subst hr
    refine ⟨by simp only [Env.exacts]; omega, fun a' n' c' e => ?_⟩
    rw [g1] at e
    simp only [List.cons.injEq, Value.slice.injEq, and_true] at e
    obtain ⟨rfl, rfl, rfl⟩ := e
    have : ¬ n < E.nx := by omega
    simp only [Env.exacts, this, if_false, rowOK]
    exact hc
  | .sl s xs .ro, n, K, h => ⟨_, _, h, Canon.refl _ _⟩
  | .sl s xs (.own r), n, K, h => ⟨_, _, h, Canon.refl _ _⟩
  | .pt id p, n, K, h => ⟨_, _, h, Canon.refl _ _⟩
  | .bs id p s off len cap, n, K, h => ⟨_, _, h, Canon.refl _ _⟩
  | .fn k caps, n, K, h => ⟨_, _, h, Canon.refl _ _⟩
  | .sc v, n, K, h => ⟨_, _, h, Canon.refl _ _⟩
  | .ar _ s xs, n, K, h => ⟨_, _, h, Canon.refl _ _⟩
  | .rp v, n, K, h => ⟨_, _, h, Canon.refl _ _⟩
  | .tup xs, n, K, h => ⟨_, _, h, Canon.refl _ _⟩
theorem cansK_of : ∀ (xs : List AV) (n : Nat) (K : List AV → Nat → Prop), cansK xs n K → ∃ ys m, K ys m ∧ Canons xs ys n m
  | [], n, K, h => ⟨[], n, h, Nat.le_refl _, rfl, fun E shs ps k h _ _ => h⟩
  | x :: xs, n, K, h => by
    simp only [cansK] at h
    obtain ⟨y, m, h1, h2⟩ := canK_of x n _ h
    obtain ⟨ys, m2, h3, h4⟩ := cansK_of xs m _ h1
    refine ⟨y :: ys, m2, h3, Nat.le_trans h2.1 h4.1, by simp only [AV.shapes, h2.2.1, h4.2.1], fun E shs ps k hi h5 h6 => ?_⟩
    obtain ⟨p, qs, g1, g2, g3⟩ := hi
    have := h2.1
    have := h4.1
    exact ⟨p, qs, g1, h2.2.2 E shs p k g2 h5 (by omega), h4.2.2 E shs qs k g3 (by omega) h6⟩
end

theorem Canon.rep {v v' : AV} {n m : Nat} (h : Canon v v' n m) {E : Env} {shs : List Shape} {u : Value} {k : Nat} (hr : Rep0 E shs v u) (h1 : E.nx ≤ n) (h2 : m ≤ E.nx + k) : Rep0 (E.exacts k) shs v' u := by
  by_cases hs : v.shape = .lf
  · exact (rep0_lf (h.2.1.trans hs)).2 (h.2.2 E shs [u] k ((rep0_lf hs).1 hr) h1 h2)
  · obtain ⟨cs, rfl, hi⟩ := (rep0_ag hs).1 hr
    exact (rep0_ag (by rw [h.2.1]; exact hs)).2 ⟨cs, rfl, h.2.2 E shs _ k hi h1 h2⟩
theorem canK_rep {v : AV} {n : Nat} {K : AV → Nat → Prop} (h : canK v n K) : ∃ v' m, K v' m ∧ n ≤ m ∧ ∀ (E : Env) (shs : List Shape) (u : Value) (k : Nat), Rep E shs v u → E.nx ≤ n → m ≤ E.nx + k → Rep (E.exacts k) shs v' u := by
  cases v with
  | tup xs => exact ⟨_, _, h, Nat.le_refl _, fun E shs u k hr _ _ => (tra_exacts E shs k).rep hr⟩
  | _ =>
    obtain ⟨v', m, h1, h2⟩ := canK_of _ n K h
    exact ⟨v', m, h1, h2.1, fun E shs u k hr h3 h4 => rep_of0 (h2.rep (rep0_of hr (.inr fun xs => by simp)) h3 h4)⟩

theorem cantK_of : ∀ (l : List (Nat × AV)) (n : Nat) (K : List (Nat × AV) → Nat → Prop), cantK l n K → ∃ l' m, K l' m ∧ n ≤ m ∧ ∀ t v', lookV l' t = some v' → ∃ v, lookV l t = some v ∧
    ∀ (E : Env) (shs : List Shape) (u : Value) (k : Nat), Rep E shs v u → E.nx ≤ n → m ≤ E.nx + k → Rep (E.exacts k) shs v' u
  | [], n, K, h => ⟨[], n, h, Nat.le_refl _, fun t v' hv => by simp [lookV] at hv⟩
  | (t, v) :: l, n, K, h => by
    simp only [cantK] at h
    obtain ⟨v', m, h1, h2, h3⟩ := canK_rep h
    obtain ⟨l', m2, g1, g2, g3⟩ := cantK_of l m _ h1
    refine ⟨(t, v') :: l', m2, g1, Nat.le_trans h2 g2, fun t' w hw => ?_⟩
    simp only [lookV] at hw ⊢
    split at hw
    · simp only [Option.some.injEq] at hw
      subst hw
      exact ⟨v, rfl, fun E shs u k hr h5 h6 => h3 E shs u k hr h5 (by omega)⟩
    · obtain ⟨x, k1, k2⟩ := g3 t' w hw
      exact ⟨x, k1, fun E shs u k hr h5 h6 => k2 E shs u k hr (by omega) h6⟩
theorem canbK_of : ∀ (l : List (AV × Bool)) (n : Nat) (K : List (AV × Bool) → Nat → Prop), canbK l n K → ∃ l' m, K l' m ∧ n ≤ m ∧ l'.length = l.length ∧ shsOf l' = shsOf l ∧ ∀ (i : Nat) (c' : AV) (f : Bool), l'[i]? = some (c', f) → ∃ c, l[i]? = some (c, f) ∧ (f = true → c' = c) ∧
    ∀ (E : Env) (shs : List Shape) (cs : List Value) (k : Nat), IR E shs c cs → E.nx ≤ n → m ≤ E.nx + k → IR (E.exacts k) shs c' cs
  | [], n, K, h => ⟨[], n, h, Nat.le_refl _, rfl, rfl, fun i c' f hv => by simp at hv⟩
  | (v, true) :: l, n, K, h => by
    simp only [canbK] at h
    obtain ⟨l', m2, g1, g2, g3, g4, g5⟩ := canbK_of l n _ h
    refine ⟨(v, true) :: l', m2, g1, g2, by simp [g3], by simp only [shsOf, List.map_cons] at g4 ⊢; rw [g4], fun i c' f hw => ?_⟩
    cases i with
    | zero =>
      simp only [List.getElem?_cons_zero, Option.some.injEq, Prod.mk.injEq] at hw
      obtain ⟨rfl, rfl⟩ := hw
      exact ⟨v, rfl, fun _ => rfl, fun E shs cs k hi _ _ => (tra_exacts E shs k).ir hi⟩
    | succ i => exact g5 i c' f (by simpa using hw)
  | (v, false) :: l, n, K, h => by
    simp only [canbK] at h
    obtain ⟨v', m, h1, h2⟩ := canK_of v n _ h
    obtain ⟨l', m2, g1, g2, g3, g4, g5⟩ := canbK_of l m _ h1
    have := h2.1
    refine ⟨(v', false) :: l', m2, g1, by omega, by simp [g3], by simp only [shsOf, List.map_cons] at g4 ⊢; rw [g4, h2.2.1], fun i c' f hw => ?_⟩
    cases i with
    | zero =>
      simp only [List.getElem?_cons_zero, Option.some.injEq, Prod.mk.injEq] at hw
      obtain ⟨rfl, rfl⟩ := hw
      exact ⟨v, rfl, fun e => by simp at e, fun E shs cs k hi h5 h6 => h2.2.2 E shs cs k hi h5 (by omega)⟩
    | succ i =>
      obtain ⟨c, k1, k2, k3⟩ := g5 i c' f (by simpa using hw)
      exact ⟨c, by simpa using k1, k2, fun E shs cs k hi h5 h6 => k3 E shs cs k hi (by omega) h6⟩

section
variable {P : Program} {D : Tabs} {B : Base}

theorem exacts_ok {E : Env} {nt : Nat} {tm tm1 : List (Nat × AV)} {bx bx1 : List (AV × Bool)} {lv : List Nat} {nx n2 : Nat} {tmps : Array Value} (h : Sim D B E ⟨nt, tm, ⟨bx, lv, nx⟩⟩ tmps) (hn : nx ≤ n2)
    (ht : ∀ t v', lookV tm1 t = some v' → Rep (E.exacts (n2 - nx)) (shsOf bx) v' (tmps.getD t undef)) (hl : bx1.length = bx.length) (hs : shsOf bx1 = shsOf bx)
    (hb : ∀ (i : Nat) (c' : AV) (f : Bool), bx1[i]? = some (c', f) → ∃ c, bx[i]? = some (c, f) ∧ (f = true → c' = c) ∧ ∀ cs, IR E (shsOf bx) c cs → IR (E.exacts (n2 - nx)) (shsOf bx) c' cs) :
    Sim D B (E.exacts (n2 - nx)) ⟨nt, tm1, ⟨bx1, List.range' nx (n2 - nx) ++ lv, n2⟩⟩ tmps := by
  have hnx : E.nx = nx := h.nx
  have hm := h.m
  simp only at hm
  have hcl : claims (E.exacts (n2 - nx)) (List.range' nx (n2 - nx) ++ lv) = claims E lv := by
    unfold claims
    rw [List.filterMap_append]
    have e1 : (List.range' nx (n2 - nx)).filterMap (rowBlk (E.exacts (n2 - nx))) = [] := by
      rw [List.filterMap_eq_nil_iff]
      intro q hq
      have := (List.mem_range'_1.1 hq).1
      have : ¬ q < E.nx := by omega
      simp only [rowBlk, Env.exacts, this, if_false, rsBlk]
    have e2 : lv.filterMap (rowBlk (E.exacts (n2 - nx))) = lv.filterMap (rowBlk E) := by
      refine fmap_congr _ fun q hq => ?_
      have := (hm.row q hq).1
      simp only [rowBlk, Env.exacts, this, if_true]
    rw [e1, e2]
    rfl
  have hfb := h.fb
  refine ⟨h.sz, by simp only [Env.exacts]; omega, ⟨by simp only [Env.exacts]; rw [hl]; exact hm.bxl, fun id c f b h1 h2 => ?_, fun r hr => ?_, by simp only; rw [hcl]; exact hm.nodup, hm.lim, hm.glob⟩, ?_, fun t v hv => ?_, by simp only; rw [hs]; exact h.shp⟩
  · simp only at h1
    rw [hs]
    obtain ⟨c0, k1, k2, k3⟩ := hb id c f h1
    obtain ⟨cs, ty, fz, g1, g2, g3, g4, g5⟩ := hm.box id c0 f b k1 h2
    exact ⟨cs, ty, fz, g1, g2, k3 _ g3, fun e => ⟨by rw [k2 e]; exact (g4 e).1, (g4 e).2⟩, g5⟩
  · rcases List.mem_append.1 hr with hr | hr
    · have hr := List.mem_range'_1.1 hr
      have : ¬ r < E.nx := by omega
      refine ⟨by simp only [Env.exacts]; omega, by simp [Env.exacts, this], fun b hb' => ?_⟩
      simp [Env.exacts, this] at hb'
    · obtain ⟨g1, g2, g3⟩ := hm.row r hr
      refine ⟨by simp only [Env.exacts]; omega, by simpa [Env.exacts, g1] using g2, fun b hb' => ?_⟩
      simp only [Env.exacts, g1, if_true] at hb'
      exact g3 b hb'
  · exact ⟨hfb.os, hfb.tape, hfb.output, hfb.size, hfb.ext, hfb.same, fun b hb1 => hfb.cl b (by simp only at hb1; rw [hcl] at hb1; exact hb1), hfb.pre⟩
  · simp only
    rw [hs]
    exact ht t v hv

theorem normC_ok {E : Env} {σ : AS} {tmps : Array Value} {can : Bool} {keep : List Nat} {nb : Nat} {K : AS → Prop} (h : Sim D B E σ tmps) (hb1 : B.bx.length ≤ nb) (hb2 : B.shs.length ≤ nb) (hk : normC can keep nb σ K) : ∃ E' σ', E'.w = E.w ∧ Sim D B E' σ' tmps ∧ K σ' ∧ σ'.m.bx.length = nb := by
  cases can with
  | false => exact norm_ok h hb1 hb2 hk
  | true =>
    obtain ⟨nt, tm0, bx, lv, nx⟩ := σ
    simp only [normC] at hk
    split at hk
    · exact hk.elim
    · rename_i tm hkt
      obtain ⟨tm1, n1, hk, hn1, ht⟩ := cantK_of tm nx _ hk
      obtain ⟨bx1, n2, hk, hn2, hl, hs, hb⟩ := canbK_of bx n1 _ hk
      have hnx : E.nx = nx := h.nx
      have h' := exacts_ok (tm1 := tm1) (bx1 := bx1) (n2 := n2) h (by omega) (fun t v' hv => ?_) hl hs fun i c' f hi => ?_
      · obtain ⟨E', σ', g1, g2⟩ := norm_ok h' hb1 hb2 hk
        exact ⟨E', σ', g1, g2⟩
      · obtain ⟨v, k1, k2⟩ := ht t v' hv
        exact k2 E _ _ _ (h.tm t v (keepT_of _ _ _ hkt t v k1)) (by omega) (by omega)
      · obtain ⟨c, k1, k2, k3⟩ := hb i c' f hi
        exact ⟨c, k1, k2, fun cs hi => k3 E _ cs _ hi (by omega) (by omega)⟩

theorem normX_ok {E : Env} {σ : AS} {tmps : Array Value} {can : Bool} {keep : List Nat} {nb : Nat} {K : AS → Prop} (h : Sim D B E σ tmps) (hb1 : B.bx.length ≤ nb) (hb2 : B.shs.length ≤ nb) (hk : normX can keep nb σ K) : ∃ E' σ', E'.w = E.w ∧ Sim D B E' σ' tmps ∧ K σ' := by
  unfold normX at hk
  split at hk
  · obtain ⟨E', σ', h1, h2, h3, _⟩ := normC_ok h hb1 hb2 hk
    exact ⟨E', σ', h1, h2, h3⟩
  · split at hk
    · obtain ⟨k, hk⟩ := hk
      obtain ⟨E', σ', h1, h2, h3, _⟩ := normC_ok h (Nat.le_trans hb1 (Nat.le_add_right _ _)) (Nat.le_trans hb2 (Nat.le_add_right _ _)) hk
      exact ⟨E', σ', h1, h2, h3⟩
    · obtain ⟨E', σ', h1, h2, h3, _⟩ := normC_ok h hb1 hb2 hk
      exact ⟨E', σ', h1, h2, h3⟩
end
end Go.WL
namespace Go.WL

/-! ### The words -/
def resK (D : Tabs) (tm : List (Nat × AV)) (bx : List (AV × Bool)) : List ResultVar → (List AV → Prop) → Prop
  | [], K => K []
  | .tmp t :: l, K => match lookV tm t with
    | some (.tup _) => False
    | some v => resK D tm bx l fun vs => K (v :: vs)
    | none => False
  | .cell a t :: l, K => match lookV tm a with
    | some p => wLoad D bx t p fun v => match v with
      | .tup _ => False
      | v => resK D tm bx l fun vs => K (v :: vs)
    | none => False
def tupOf : List AV → AV
  | [v] => v
  | vs => .tup vs
def tupK (vs : List AV) (K : AV → Prop) : Prop := match vs with
  | [v] => K v
  | vs => K (.tup vs)
theorem tupK_of {vs : List AV} {K : AV → Prop} (h : tupK vs K) : K (tupOf vs) := by
  match vs, h with
  | [], h => exact h
  | [v], h => exact h
  | v :: v2 :: vs, h => exact h
def canR (can : Bool) (r : AV) (n : Nat) (K : AV → Nat → Prop) : Prop := match can with
  | false => K r n
  | true => match r with
    | .tup xs => cansK xs n fun ys m => K (.tup ys) m
    | v => canK v n K
def canL (can : Bool) (xs : List AV) (n : Nat) (K : List AV → Nat → Prop) : Prop := match can with
  | false => K xs n
  | true => cansK xs n K
/-- What goes out: the answer, the boxes that came in, and those that go out beside them. -/
def outK (can : Bool) (nst : Nat) (extra : List Nat) (bx : List (AV × Bool)) (lv : List Nat) (nx : Nat) (r : AV) (Q : AV → List AV → Prop) : Prop :=
  litsK (List.range nst ++ extra) fun ids => match contents bx ids with
    | none => False
    | some cs => canR can r nx fun r1 n1 => canL can cs n1 fun cs1 n2 =>
      litsK (AV.rows r1 ++ AV.rowss cs1) fun rows => match allMemb (List.range' nx (n2 - nx) ++ lv) rows && noDup rows && noDup ids && allMemb ids (AV.ids r1 ++ AV.idss cs1) with
        | false => False
        | true =>
          renK (fun i => posOf ids i 0) (fun k => posOf rows k 0) r1 fun r2 =>
          rensK (fun i => posOf ids i 0) (fun k => posOf rows k 0) cs1 fun cs2 => Q r2 cs2
-- A slice of whatever room is one of unknown room.
mutual
def AV.ro : AV → AV
  | .st xs => .st (AV.ros xs)
  | .sl s xs _ => .sl s xs .ro
  | v => v
def AV.ros : List AV → List AV
  | [] => []
  | x :: xs => x.ro :: AV.ros xs
end
mutual
def roK : AV → (AV → Prop) → Prop
  | .st xs, K => rosK xs fun ys => K (.st ys)
  | .sl s xs _, K => K (.sl s xs .ro)
  | v, K => K v
def rosK : List AV → (List AV → Prop) → Prop
  | [], K => K []
  | x :: xs, K => roK x fun y => rosK xs fun ys => K (y :: ys)
end
mutual
theorem roK_of : ∀ (v : AV) (K : AV → Prop), roK v K → K v.ro
  | .st xs, K, h => rosK_of xs (fun ys => K (.st ys)) (by simpa only [roK] using h)
  | .sl s xs m, K, h => h
  | .tup xs, K, h => h
  | .pt id p, K, h => h
  | .bs id p s off len cap, K, h => h
  | .fn k caps, K, h => h
  | .sc v, K, h => h
  | .ar n s xs, K, h => h
  | .rp v, K, h => h
theorem rosK_of : ∀ (xs : List AV) (K : List AV → Prop), rosK xs K → K (AV.ros xs)
  | [], _, h => h
  | x :: xs, K, h => by
    simp only [rosK] at h
    exact rosK_of xs (fun ys => K (x.ro :: ys)) (roK_of x _ h)
end
mutual
theorem IR_ro {E : Env} {shs : List Shape} : ∀ (v : AV) (cs : List Value), IR E shs v cs → IR E shs v.ro cs
  | .st xs, cs, h => by
    obtain ⟨ps, h1, h2⟩ := h
    exact ⟨ps, IRs_ro xs ps h1, h2⟩
  | .sl s xs m, cs, h => by
    obtain ⟨⟨a, c, h1, h2, h3, h4, h5, h6⟩, _⟩ := h
    exact ⟨⟨a, c, h1, h2, fun k => by simp at k, h4, h5, h6⟩, fun r hr => by simp at hr⟩
  | .pt id p, cs, h => h
  | .bs id p s off len cap, cs, h => h
  | .fn k caps, cs, h => h
  | .sc v, cs, h => h
  | .ar n s xs, cs, h => h
  | .rp v, cs, h => h
  | .tup xs, cs, h => h.elim
theorem IRs_ro {E : Env} {shs : List Shape} : ∀ (xs : List AV) (ps : List (List Value)), IRs E shs xs ps → IRs E shs (AV.ros xs) ps
  | [], ps, h => h
  | x :: xs, ps, h => by
    obtain ⟨p, qs, h1, h2, h3⟩ := h
    exact ⟨p, qs, h1, IR_ro x p h2, IRs_ro xs qs h3⟩
end
theorem rep0_ro {E : Env} {shs : List Shape} {v : AV} {u : Value} (h : Rep0 E shs v u) : Rep0 E shs v.ro u := by
  cases v with
  | st xs => obtain ⟨cs, h1, h2⟩ := h; exact ⟨cs, h1, IR_ro (.st xs) _ h2⟩
  | sl s xs m => exact IR_ro (shs := shs) (.sl s xs m) _ h
  | _ => exact h
theorem repL_ro {E : Env} {shs : List Shape} : ∀ (xs : List AV) (us : List Value), RepL E shs xs us → RepL E shs (AV.ros xs) us
  | [], us, h => h
  | x :: xs, us, h => by
    obtain ⟨u, vs, h1, h2, h3⟩ := h
    exact ⟨u, vs, h1, rep0_ro h2, repL_ro xs vs h3⟩
/-- As 'outK'; where 'extra' is [999], the boxes of slices that are handed out are closed ahead. -/
def outC (can : Bool) (nst : Nat) (extra : List Nat) (bx : List (AV × Bool)) (lv : List Nat) (nx : Nat) (r : AV) (Q : AV → List AV → Prop) : Prop :=
  match extra with
  | [] => outK can nst [] bx lv nx r Q
  | x :: l => match Nat.beq x 999 with
    | true => match r with
      | .tup xs => freezeK bx xs fun ys bx' => rosK ys fun ys => outK can nst l bx' lv nx (.tup ys) Q
      | v => freezeK bx [v] fun ys bx' => match ys with
        | [u] => roK u fun u => outK can nst l bx' lv nx u Q
        | _ => False
    | false => outK can nst (x :: l) bx lv nx r Q
def exitQ (D : Tabs) (nst : Nat) (rs : List ResultVar) (Q : AV → List AV → Prop) : Ex → AS → Prop
  | .exit _, _ => False
  | _, ⟨_, tm, ⟨bx, lv, nx⟩⟩ => resK D tm bx rs fun vs => ∃ (can : Bool) (extra : List Nat), tupK vs fun r => outC can nst extra bx lv nx r Q
def idxA : Nat → List AV → List (Nat × AV)
  | _, [] => []
  | i, x :: xs => (i, x) :: idxA (i + 1) xs

/-! ### Their soundness -/
theorem cansK_all : ∀ (xs : List AV) (n : Nat) (K : List AV → Nat → Prop), cansK xs n K → ∃ ys m, K ys m ∧ n ≤ m ∧ ys.length = xs.length ∧ (∀ (i : Nat) (x : AV), xs[i]? = some x → ∃ y, ys[i]? = some y ∧ y.shape = x.shape ∧ ∀ (E : Env) (shs : List Shape) (cs : List Value) (k : Nat), IR E shs x cs → E.nx ≤ n → m ≤ E.nx + k → IR (E.exacts k) shs y cs) ∧
    ∀ (E : Env) (shs : List Shape) (us : List Value) (k : Nat), RepL E shs xs us → E.nx ≤ n → m ≤ E.nx + k → RepL (E.exacts k) shs ys us
  | [], n, K, h => ⟨[], n, h, Nat.le_refl _, rfl, fun i x hx => by simp at hx, fun E shs us k hr _ _ => hr⟩
  | x :: xs, n, K, h => by
    simp only [cansK] at h
    obtain ⟨y, m, h1, h2⟩ := canK_of x n _ h
    obtain ⟨ys, m2, g1, g2, g3, g4, g5⟩ := cansK_all xs m _ h1
    have hnm := h2.1
    refine ⟨y :: ys, m2, g1, by omega, by simp [g3], fun i z hz => ?_, fun E shs us k hr h5 h6 => ?_⟩
    · cases i with
      | zero =>
        simp only [List.getElem?_cons_zero, Option.some.injEq] at hz
        subst hz
        exact ⟨y, rfl, h2.2.1, fun E shs cs k hi h5 h6 => h2.2.2 E shs cs k hi h5 (by omega)⟩
      | succ i =>
        obtain ⟨w, k1, k2, k3⟩ := g4 i z (by simpa using hz)
        exact ⟨w, by simpa using k1, k2, fun E shs cs k hi h5 h6 => k3 E shs cs k hi (by omega) h6⟩
    · obtain ⟨u, vs, k1, k2, k3⟩ := hr
      exact ⟨u, vs, k1, h2.rep k2 h5 (by omega), g5 E shs vs k k3 (by omega) h6⟩

theorem canR_of {can : Bool} {r : AV} {n : Nat} {K : AV → Nat → Prop} (h : canR can r n K) : ∃ r' m, K r' m ∧ n ≤ m ∧ ∀ (E : Env) (shs : List Shape) (u : Value) (k : Nat), Rep E shs r u → E.nx ≤ n → m ≤ E.nx + k → Rep (E.exacts k) shs r' u := by
  cases can with
  | false => exact ⟨r, n, h, Nat.le_refl _, fun E shs u k hr _ _ => (tra_exacts E shs k).rep hr⟩
  | true =>
    unfold canR at h
    simp only at h
    split at h
    · rename_i xs
      obtain ⟨ys, m, h1, h2, _, _, h5⟩ := cansK_all xs n _ h
      exact ⟨.tup ys, m, h1, h2, fun E shs u k ⟨us, e, hr⟩ k1 k2 => ⟨us, e, h5 E shs us k hr k1 k2⟩⟩
    · exact canK_rep h
theorem canL_of {can : Bool} {xs : List AV} {n : Nat} {K : List AV → Nat → Prop} (h : canL can xs n K) : ∃ ys m, K ys m ∧ n ≤ m ∧ ys.length = xs.length ∧ (∀ (i : Nat) (x : AV), xs[i]? = some x → ∃ y, ys[i]? = some y ∧ y.shape = x.shape ∧ ∀ (E : Env) (shs : List Shape) (cs : List Value) (k : Nat), IR E shs x cs → E.nx ≤ n → m ≤ E.nx + k → IR (E.exacts k) shs y cs) := by
  cases can with
  | false => exact ⟨xs, n, h, Nat.le_refl _, rfl, fun i x hx => ⟨x, hx, rfl, fun E shs cs k hi _ _ => (tra_exacts E shs k).ir hi⟩⟩
  | true =>
    obtain ⟨ys, m, h1, h2, h3, h4, _⟩ := cansK_all xs n _ h
    exact ⟨ys, m, h1, h2, h3, h4⟩

section
variable {P : Program} {D : Tabs} {B : Base}

def oneRes (tmps : Array Value) : ResultVar → Sem Value
  | .tmp t => pure (tmps.getD t undef)
  | .cell a t => do loadVar t (← asAddr (tmps.getD a undef))

theorem resK_ok (hT : TabOK P D) {E : Env} {nt : Nat} {tm : List (Nat × AV)} {bx : List (AV × Bool)} {lv : List Nat} {nx : Nat} {tmps : Array Value} (h : Sim D B E ⟨nt, tm, ⟨bx, lv, nx⟩⟩ tmps) : ∀ (rs : List ResultVar) (K : List AV → Prop), resK D tm bx rs K →
    ∃ vs us, K vs ∧ RepL E (shsOf bx) vs us ∧ (rs.mapM (oneRes tmps)).run P E.w = .ok us E.w
  | [], K, hk => ⟨[], [], hk, rfl, by simp⟩
  | .tmp t :: l, K, hk => by
    simp only [resK] at hk
    split at hk
    · exact hk.elim
    · rename_i v hne hv
      obtain ⟨vs, us, g1, g2, g3⟩ := resK_ok hT h l _ hk
      refine ⟨v :: vs, tmps.getD t undef :: us, g1, ⟨_, _, rfl, rep0_of (h.tm t v hv) (.inr fun xs e => hne xs (e ▸ rfl)), g2⟩, ?_⟩
      simp [oneRes, g3]
    · exact hk.elim
  | .cell a t :: l, K, hk => by
    simp only [resK] at hk
    split at hk
    · rename_i p hv
      obtain ⟨v, r, k1, k2, k3⟩ := wLoad_ok (P := P) hT h (h.tm a p hv) hk
      split at k1
      · exact k1.elim
      · rename_i hne
        obtain ⟨vs, us, g1, g2, g3⟩ := resK_ok hT h l _ k1
        refine ⟨v :: vs, r :: us, g1, ⟨_, _, rfl, rep0_of k2 (.inr fun xs e => hne xs e), g2⟩, ?_⟩
        have hload : (oneRes tmps (.cell a t)).run P E.w = .ok r E.w := by
          cases hu : tmps.getD a undef with
          | pointer ad =>
            cases ad with
            | none => rw [hu] at k3; simp [Instr.loadAt, Instr.sureAddr, stuck] at k3
            | some ad =>
              rw [hu] at k3
              simp only [Instr.loadAt, Instr.sureAddr, Sem.run_bind, Sem.run_pure, Result.andThen_ok] at k3
              simp [oneRes, hu, asAddr, k3]
          | _ => rw [hu] at k3; simp [Instr.loadAt, Instr.sureAddr, stuck] at k3
        simp [hload, g3]
    · exact hk.elim

def resV : List Value → Value
  | [u] => u
  | us => .tuple us.toArray

theorem run_results {fn : Func} {tmps : Array Value} {us : List Value} {w : World} (h : (fn.results.toList.mapM (oneRes tmps)).run P w = .ok us w) : (results fn tmps).run P w = .ok (resV us) w := by
  have e : results fn tmps = (do
      let vs ← fn.results.mapM (oneRes tmps)
      pure (if h : vs.size = 1 then vs[0] else .tuple vs)) := by
    unfold results
    congr 2
  rw [e, Array.mapM_eq_mapM_toList]
  simp only [Sem.run_bind, map_eq_pure_bind, h, Result.andThen_ok, Sem.run_pure]
  congr 1
  match us with
  | [] => simp [resV]
  | [u] => simp [resV]
  | u :: u2 :: us => simp [resV]

theorem tupOf_rep {E : Env} {shs : List Shape} {vs : List AV} {us : List Value} (h : RepL E shs vs us) : Rep E shs (tupOf vs) (resV us) := by
  match vs, h with
  | [], h => have h : us = [] := h; subst h; exact ⟨[], rfl, rfl⟩
  | [v], ⟨u, us', e, h1, h2⟩ => have h2 : us' = [] := h2; subst h2 e; exact rep_of0 h1
  | v :: v2 :: vs, ⟨u, us', e, h1, u2, us2, e2, h2, h3⟩ => subst e2 e; exact ⟨_, rfl, _, _, rfl, h1, _, _, rfl, h2, h3⟩

theorem outK_ok {E : Env} {nt : Nat} {tm : List (Nat × AV)} {bx : List (AV × Bool)} {lv : List Nat} {nx : Nat} {tmps : Array Value} {can : Bool} {extra : List Nat} {r : AV} {v : Value} {Q : AV → List AV → Prop} (h : Sim D B E ⟨nt, tm, ⟨bx, lv, nx⟩⟩ tmps) (hr : Rep E (shsOf bx) r v) (hB : B.shs.length = B.bx.length)
    (hk : outK can B.bx.length extra bx lv nx r Q) : ∃ E' r' st', E'.w = E.w ∧ MSim D E' (boxesOf st') (AV.rows r' ++ AV.rowss st') ∧ Rep E' (shsOf (boxesOf st')) r' v ∧ FrameB B E' (claims E' (AV.rows r' ++ AV.rowss st')) ∧ B.shs <+: shsOf (boxesOf st') ∧ Q r' st' := by
  unfold outK at hk
  have hk := litsK_of _ _ hk
  cases hc : contents bx (List.range B.bx.length ++ extra) with
  | none => simp [hc] at hk
  | some cs =>
    simp only [hc] at hk
    obtain ⟨r1, n1, hk, hn1, hr1⟩ := canR_of hk
    obtain ⟨cs1, n2, hk, hn2, hl1, hat1⟩ := canL_of hk
    have hk := litsK_of _ _ hk
    split at hk
    · exact hk.elim
    · rename_i hcond
      have hk := renK_of _ _ hk
      have hk := rensK_of _ _ hk
      simp only [Bool.and_eq_true] at hcond
      obtain ⟨⟨⟨c1, c2⟩, c3⟩, c4⟩ := hcond
      generalize hids : List.range B.bx.length ++ extra = ids at *
      obtain ⟨hl, hat⟩ := contents_at bx ids cs hc
      have hnd := noDup_of _ c3
      have hb : ∀ i ∈ ids, i < bx.length := by
        intro i hi
        obtain ⟨j, hj, he⟩ := List.getElem_of_mem hi
        obtain ⟨c, _, h2⟩ := hat j i (by rw [List.getElem?_eq_getElem hj, he])
        exact (List.getElem?_eq_some_iff.1 h2).1
      have hll : ids.length = cs1.length := by omega
      have hnx : E.nx = nx := h.nx
      have hsetat := fun k => setAll_at ids cs1 bx k hnd hll hb
      have ent : ∀ (i : Nat) (c' : AV) (f : Bool), (setAll bx ids cs1)[i]? = some (c', f) → ∃ c, bx[i]? = some (c, f) ∧ (f = true → c' = c) ∧ c'.shape = c.shape ∧ ∀ cs, IR E (shsOf bx) c cs → IR (E.exacts (n2 - nx)) (shsOf bx) c' cs := by
        intro i c' f hi
        by_cases hm : i ∈ ids
        · obtain ⟨j, hj, he⟩ := List.getElem_of_mem hm
          have he' : ids[j]? = some i := by rw [List.getElem?_eq_getElem hj, he]
          obtain ⟨c, k1, k2⟩ := hat j i he'
          obtain ⟨y, k3, k4, k5⟩ := hat1 j c k1
          rw [(hsetat i).2 j he', k3] at hi
          simp only [Option.map_some, Option.some.injEq, Prod.mk.injEq] at hi
          obtain ⟨rfl, rfl⟩ := hi
          exact ⟨c, k2, fun e => by simp at e, k4, fun cells hir => k5 E _ cells _ hir (by omega) (by omega)⟩
        · rw [(hsetat i).1 hm] at hi
          exact ⟨c', hi, fun _ => rfl, rfl, fun cells hir => (tra_exacts E _ _).ir hir⟩
      have hsl : (setAll bx ids cs1).length = bx.length := setAll_len _ _ _
      have hss : shsOf (setAll bx ids cs1) = shsOf bx := by
        apply List.ext_getElem?
        intro i
        simp only [shsOf, List.getElem?_map]
        cases hi : (setAll bx ids cs1)[i]? with
        | none =>
          have := List.getElem?_eq_none_iff.1 hi
          rw [List.getElem?_eq_none (by omega)]
        | some x =>
          obtain ⟨c', f⟩ := x
          obtain ⟨c, k1, _, k2, _⟩ := ent i c' f hi
          rw [k1]; simp [k2]
      have h1 := exacts_ok (tm1 := tm) (bx1 := setAll bx ids cs1) (n2 := n2) h (by omega) (fun t v' hv => (tra_exacts E _ _).rep (h.tm t v' hv)) hsl hss fun i c' f hi => by
        obtain ⟨c, k1, k2, _, k3⟩ := ent i c' f hi
        exact ⟨c, k1, k2, k3⟩
      have hc1 : contents (setAll bx ids cs1) ids = some cs1 := by
        have key : ∀ (l : List Nat) (ds : List AV) (bx2 : List (AV × Bool)), l.length = ds.length → (∀ (j i : Nat), l[j]? = some i → bx2[i]? = ds[j]?.map fun c => (c, false)) → contents bx2 l = some ds := by
          intro l
          induction l with
          | nil => intro ds bx2 e _; cases ds with | nil => rfl | cons => simp at e
          | cons x l ih =>
            intro ds bx2 e hh
            cases ds with
            | nil => simp at e
            | cons d ds =>
              have := hh 0 x rfl
              simp only [contents]
              simp only [List.getElem?_cons_zero, Option.map_some] at this
              rw [this]
              simp only
              rw [ih ds bx2 (by simpa using e) fun j i hji => by have := hh (j + 1) i (by simpa using hji); simpa using this]
        exact key ids cs1 _ hll fun j i hji => (hsetat i).2 j hji
      generalize hrows : AV.rows r1 ++ AV.rowss cs1 = rows at *
      have hrl := allMemb_of _ _ c1
      have hrn := noDup_of _ c2
      have hidm := allMemb_of _ _ c4
      obtain ⟨t, hm, hb'⟩ := callee_ok h1.m hc1 hnd (rows := rows) (fun q hq => by rw [← hrows]; exact List.mem_append_right _ hq) hrl hrn (fun i hi => hidm i (List.mem_append_right _ hi))
      have hrng : AV.rows (r1.ren (fun i => posOf ids i 0) (fun k => posOf rows k 0)) ++ AV.rowss (AV.rens (fun i => posOf ids i 0) (fun k => posOf rows k 0) cs1) = List.range rows.length := by
        rw [rows_ren, rowss_ren, ← List.map_append, hrows, map_pos hrn]
      have hrep1 : Rep (E.exacts (n2 - nx)) (shsOf bx) r1 v := hr1 E _ v _ hr (by omega) (by omega)
      have hfb := h1.fb
      refine ⟨(E.exacts (n2 - nx)).callee ids rows, _, _, rfl, by rw [hrng]; exact hm, Rep_tr (t.mono (fun i hi => hidm i (List.mem_append_left _ hi)) (fun q hq => by rw [← hrows]; exact List.mem_append_left _ hq)) (by simp only; rw [hss]; exact hrep1), ?_, ?_, hk⟩
      · rw [hrng]
        refine ⟨hfb.os, hfb.tape, hfb.output, hfb.size, hfb.ext, hfb.same, fun b hb1 => hfb.cl b (callee_sub h1.m hb' hrl hb1), ?_⟩
        obtain ⟨rest, hpre⟩ := hfb.pre
        simp only [Env.callee]
        rw [← hids, List.map_append]
        have e : (List.range B.bx.length).map (fun i => nthD (E.exacts (n2 - nx)).bx i) = B.bx := by
          apply List.ext_getElem?
          intro i
          by_cases hi : i < B.bx.length
          · rw [List.getElem?_map, List.getElem?_range hi]
            simp only [Option.map_some]
            have hi2 : i < (E.exacts (n2 - nx)).bx.length := by rw [← hpre]; simp; omega
            rw [← nthD_at hi2, ← hpre, List.getElem?_append_left hi]
          · rw [List.getElem?_eq_none (by simp; omega), List.getElem?_eq_none (by omega)]
        rw [e]
        exact List.prefix_append _ _
      · have hshp := h.shp
        simp only at hshp
        obtain ⟨rest, hpre⟩ := hshp
        rw [shsOf_boxes, rens_map, List.map_map]
        refine List.prefix_iff_eq_take.2 (List.ext_getElem? fun i => ?_)
        by_cases hi : i < B.shs.length
        · rw [List.getElem?_take_of_lt hi]
          have hi' : i < B.bx.length := by omega
          have hid : ids[i]? = some i := by rw [← hids, List.getElem?_append_left (by simpa using hi'), List.getElem?_range hi']
          obtain ⟨c, k1, k2⟩ := hat i i hid
          obtain ⟨y, k3, k4, _⟩ := hat1 i c k1
          rw [List.getElem?_map, k3]
          simp only [Option.map_some, Function.comp_apply, shape_ren, k4]
          have : (shsOf bx)[i]? = some c.shape := by simp [shsOf, k2]
          rw [← this, ← hpre, List.getElem?_append_left hi]
        · rw [List.getElem?_eq_none (by omega), List.getElem?_eq_none (by simp; omega)]

theorem idxA_at {E : Env} {shs : List Shape} : ∀ (args : List AV) (us : List Value) (k : Nat), RepL E shs args us → ∀ t v, lookV (idxA k args) t = some v → k ≤ t ∧ ∃ u, us[t - k]? = some u ∧ Rep0 E shs v u
  | [], us, k, h, t, v, hv => by simp [idxA, lookV] at hv
  | x :: xs, us, k, ⟨u, us', e, h1, h2⟩, t, v, hv => by
    subst e
    simp only [idxA, lookV] at hv
    split at hv
    · rename_i e
      simp only [Option.some.injEq] at hv
      subst hv
      have := Nat.eq_of_beq_eq_true e
      subst this
      exact ⟨Nat.le_refl _, u, by simp, h1⟩
    · obtain ⟨g1, u', g2, g3⟩ := idxA_at xs us' (k + 1) h2 t v hv
      refine ⟨by omega, u', ?_, g3⟩
      rw [show t - k = (t - (k + 1)) + 1 by omega, List.getElem?_cons_succ]
      exact g2
theorem repL_len {E : Env} {shs : List Shape} : ∀ {args : List AV} {us : List Value}, RepL E shs args us → us.length = args.length
  | [], us, h => by have h : us = [] := h; simp [h]
  | x :: xs, _, ⟨u, us', e, _, h2⟩ => by subst e; simp [repL_len h2]

theorem outC_ok {E : Env} {nt : Nat} {tm : List (Nat × AV)} {bx : List (AV × Bool)} {lv : List Nat} {nx : Nat} {tmps : Array Value} {can : Bool} {extra : List Nat} {r : AV} {v : Value} {Q : AV → List AV → Prop} (h : Sim D B E ⟨nt, tm, ⟨bx, lv, nx⟩⟩ tmps) (hr : Rep E (shsOf bx) r v) (hB : B.shs.length = B.bx.length)
    (hk : outC can B.bx.length extra bx lv nx r Q) : ∃ E' r' st', E'.w = E.w ∧ MSim D E' (boxesOf st') (AV.rows r' ++ AV.rowss st') ∧ Rep E' (shsOf (boxesOf st')) r' v ∧ FrameB B E' (claims E' (AV.rows r' ++ AV.rowss st')) ∧ B.shs <+: shsOf (boxesOf st') ∧ Q r' st' := by
  unfold outC at hk
  split at hk
  · exact outK_ok h hr hB hk
  · rename_i x l
    split at hk
    · have one : ∀ r : AV, Rep0 E (shsOf bx) r v → (freezeK bx [r] fun ys bx' => match ys with
          | [u] => roK u fun u => outK can B.bx.length l bx' lv nx u Q
          | _ => False) → ∃ E' r' st', E'.w = E.w ∧ MSim D E' (boxesOf st') (AV.rows r' ++ AV.rowss st') ∧ Rep E' (shsOf (boxesOf st')) r' v ∧ FrameB B E' (claims E' (AV.rows r' ++ AV.rowss st')) ∧ B.shs <+: shsOf (boxesOf st') ∧ Q r' st' := by
        intro r hr0 hk
        obtain ⟨E', ys, bx', e1, e2, _, e4, e5⟩ := freezeK_ok [r] [v] E bx _ h ⟨v, [], rfl, hr0, rfl⟩ hk
        split at e5
        · rename_i u
          obtain ⟨w, ws, hw, h0, h1⟩ := e4
          simp only [List.cons.injEq] at hw
          obtain ⟨rfl, _⟩ := hw
          obtain ⟨E2, r', st', g1, g2⟩ := outK_ok (r := u.ro) e2 (rep_of0 (rep0_ro h0)) hB (roK_of _ _ e5)
          exact ⟨E2, r', st', g1.trans e1, g2⟩
        · exact e5.elim
      cases r with
      | tup xs =>
        obtain ⟨us, rfl, hr⟩ := hr
        obtain ⟨E', ys, bx', e1, e2, _, e4, e5⟩ := freezeK_ok xs us E bx _ h hr hk
        obtain ⟨E2, r', st', g1, g2⟩ := outK_ok (r := .tup (AV.ros ys)) e2 ⟨us, rfl, repL_ro _ _ e4⟩ hB (rosK_of _ _ e5)
        exact ⟨E2, r', st', g1.trans e1, g2⟩
      | _ => exact one _ (by simpa only [Rep] using hr) hk
    · exact outK_ok h hr hB hk

end
end Go.WL
namespace Go.WL

def eqV : Value → Value → Bool
  | .bool a, .bool b => a == b
  | .int k a, .int k' b => eqK k k' && a == b
  | .string a, .string b => a.data.isEmpty && b.data.isEmpty
  | .pointer none, .pointer none => true
  | .map none, .map none => true
  | .nilFunc, .nilFunc => true
  | .nilIface, .nilIface => true
  | .slice none 0 0, .slice none 0 0 => true
  | _, _ => false
theorem eqV_of {a b : Value} (h : eqV a b = true) : a = b := by
  unfold eqV at h
  split at h
  · simpa using h
  · simp only [Bool.and_eq_true, beq_iff_eq] at h
    rw [eqK_of h.1, h.2]
  · rename_i a b
    simp only [Bool.and_eq_true, Array.isEmpty_iff] at h
    have e : a = b := ByteArray.ext (h.1.trans h.2.symm)
    rw [e]
  · rfl
  · rfl
  · rfl
  · rfl
  · rfl
  · simp at h
def eqVs : List Value → List Value → Bool
  | [], [] => true
  | a :: l, b :: m => eqV a b && eqVs l m
  | _, _ => false
theorem eqVs_of : ∀ {l m : List Value}, eqVs l m = true → l = m
  | [], [], _ => rfl
  | a :: l, b :: m, h => by
    simp only [eqVs, Bool.and_eq_true] at h
    rw [eqV_of h.1, eqVs_of h.2]
  | [], _ :: _, h => by simp [eqVs] at h
  | _ :: _, [], h => by simp [eqVs] at h

def allShB (s : Shape) : List AV → Bool
  | [] => true
  | x :: xs => Shape.eqb x.shape s && x.pure && allShB s xs
theorem allShB_of {s : Shape} : ∀ {xs : List AV}, allShB s xs = true → allSh s xs
  | [], _ => by simp [allSh]
  | x :: xs, h => by
    simp only [allShB, Bool.and_eq_true] at h
    intro y hy
    rcases List.mem_cons.1 hy with rfl | hy
    · exact ⟨eqb_of _ _ h.1.1, h.1.2⟩
    · exact allShB_of h.2 y hy
-- the cells of a zero value
mutual
def zer : AV → Option (List Value)
  | .sc v => match simple v with | true => some [v] | false => none
  | .st xs => zers xs
  | .ar n s xs => match Nat.beq xs.length n && allShB s xs with | true => zers xs | false => none
  | .sl _ [] .ex => some [.slice none 0 0]
  | _ => none
def zers : List AV → Option (List Value)
  | [] => some []
  | x :: xs => match zer x with
    | some cs => match zers xs with
      | some ds => some (cs ++ ds)
      | none => none
    | none => none
end
mutual
theorem zer_pr {w : World} {lim : Nat → Nat} : ∀ (v : AV) (cs : List Value), zer v = some cs → v.pure = true ∧ PR w lim v cs
  | .sc v, cs, h => by
    simp only [zer] at h
    split at h
    · rename_i hs; simp only [Option.some.injEq] at h; exact ⟨rfl, h.symm, hs⟩
    · simp at h
  | .st xs, cs, h => by
    obtain ⟨hp, ps, h1, h2⟩ := zers_pr (w := w) (lim := lim) xs cs (by simpa only [zer] using h)
    exact ⟨by simpa only [AV.pure] using hp, ps, h1, h2⟩
  | .ar n s xs, cs, h => by
    simp only [zer] at h
    split at h
    · rename_i hc
      simp only [Bool.and_eq_true] at hc
      obtain ⟨_, ps, h1, h2⟩ := zers_pr (w := w) (lim := lim) xs cs h
      exact ⟨rfl, Nat.eq_of_beq_eq_true hc.1, allShB_of hc.2, ps, h1, h2⟩
    · simp at h
  | .sl s [] .ex, cs, h => by
    simp only [zer, Option.some.injEq] at h
    subst h
    exact ⟨rfl, none, 0, rfl, Nat.le_refl _, fun _ => rfl, by simp [allSh], fun _ => rfl, .inl rfl⟩
  | .sl s (x :: xs) m, cs, h => by simp [zer] at h
  | .sl s [] .ro, cs, h => by simp [zer] at h
  | .sl s [] (.own r), cs, h => by simp [zer] at h
  | .rp v, cs, h => by simp [zer] at h
  | .tup xs, cs, h => by simp [zer] at h
  | .pt id p, cs, h => by simp [zer] at h
  | .bs id p s o l c, cs, h => by simp [zer] at h
  | .fn k c, cs, h => by simp [zer] at h
theorem zers_pr {w : World} {lim : Nat → Nat} : ∀ (xs : List AV) (cs : List Value), zers xs = some cs → AV.pures xs = true ∧ ∃ ps, PRs w lim xs ps ∧ cs = ps.flatten
  | [], cs, h => by simp only [zers, Option.some.injEq] at h; exact ⟨rfl, [], rfl, h.symm⟩
  | x :: xs, cs, h => by
    simp only [zers] at h
    split at h
    · rename_i c hc
      split at h
      · rename_i d hd
        simp only [Option.some.injEq] at h
        obtain ⟨p1, h1⟩ := zer_pr (w := w) (lim := lim) x c hc
        obtain ⟨p2, ps, h2, h3⟩ := zers_pr (w := w) (lim := lim) xs d hd
        exact ⟨by simp only [AV.pures, p1, p2, Bool.and_self], c :: ps, ⟨c, ps, rfl, h1, h2⟩, by rw [← h, h3]; rfl⟩
      · simp at h
    · simp at h
end
def zeroB (v : AV) (z : Value) : Bool := match zer v with
  | none => false
  | some cs => match v.shape with
    | .lf => match cs with
      | [c] => eqV c z
      | _ => false
    | _ => match z with
      | .agg ds => eqVs cs ds.toList
      | _ => false
theorem zeroB_of {v : AV} {z : Value} (h : zeroB v z = true) (E : Env) (shs : List Shape) : v.pure = true ∧ Rep0 E shs v z := by
  unfold zeroB at h
  split at h
  · simp at h
  · rename_i cs hz
    obtain ⟨hp, hr⟩ := zer_pr (w := E.w) (lim := E.lim) v cs hz
    refine ⟨hp, ?_⟩
    have hi := (IR_pure (shs := shs) v cs hp).2 hr
    split at h
    · rename_i hs
      split at h
      · rename_i c
        rw [← eqV_of h]
        exact (rep0_lf hs).2 hi
      · simp at h
    · rename_i hs
      split at h
      · rename_i ds
        rw [rep0_ag (fun e => hs e)]
        exact ⟨ds, rfl, by rw [← eqVs_of h]; exact hi⟩
      · simp at h

def fieldsB (D : Tabs) : List Field → List (Nat × Nat) → List Shape → Nat → Bool
  | [], [], [], _ => true
  | f :: fl, (t, o) :: fs, s :: ss, off => Nat.beq f.type t && Nat.beq f.offset o && Nat.beq f.offset off && !(f.name == "_") &&
      (match lookT D.ty f.type with
        | some j => Shape.eqb s j.sh && !(Nat.beq j.sh.size 0)
        | none => false) && fieldsB D fl fs ss (off + s.size)
  | _, _, _, _ => false
theorem fieldsB_of {D : Tabs} : ∀ (fl : List Field) (fs : List (Nat × Nat)) (ss : List Shape) (off : Nat), fieldsB D fl fs ss off = true → fl.length = ss.length ∧ fs.length = ss.length ∧
    ∀ (i : Nat) (f : Field), fl[i]? = some f → ∃ j : TI, lookT D.ty f.type = some j ∧ fs[i]? = some (f.type, f.offset) ∧ ss[i]? = some j.sh ∧ f.offset = off + Shape.sizes (ss.take i) ∧ j.sh.size ≠ 0 ∧ f.name ≠ "_"
  | [], [], [], off, _ => ⟨rfl, rfl, fun i f h => by simp at h⟩
  | f :: fl, (t, o) :: fs, s :: ss, off, h => by
    simp only [fieldsB, Bool.and_eq_true] at h
    obtain ⟨⟨⟨⟨⟨h1, h2⟩, h3⟩, h4⟩, h5⟩, h6⟩ := h
    obtain ⟨g1, g2, g3⟩ := fieldsB_of fl fs ss _ h6
    refine ⟨by simp [g1], by simp [g2], fun i g hi => ?_⟩
    cases i with
    | zero =>
      simp only [List.getElem?_cons_zero, Option.some.injEq] at hi
      subst hi
      split at h5
      · rename_i j hj
        simp only [Bool.and_eq_true, Bool.not_eq_true'] at h5
        refine ⟨j, hj, ?_, ?_, ?_, ?_, ?_⟩
        · rw [Nat.eq_of_beq_eq_true h1, Nat.eq_of_beq_eq_true h2]; rfl
        · rw [← eqb_of _ _ h5.1]; rfl
        · simpa [Shape.sizes] using Nat.eq_of_beq_eq_true h3
        · intro e; rw [e] at h5; simp at h5
        · intro e; rw [e] at h4; simp at h4
      · simp at h5
    | succ i =>
      obtain ⟨j, k1, k2, k3, k4, k5⟩ := g3 i g (by simpa using hi)
      exact ⟨j, k1, by simpa using k2, by simpa using k3, by simp only [List.take_succ_cons, Shape.sizes]; omega, k5⟩
  | [], [], _ :: _, _, h => by simp [fieldsB] at h
  | [], _ :: _, _, _, h => by simp [fieldsB] at h
  | _ :: _, [], _, _, h => by simp [fieldsB] at h
  | _ :: _, _ :: _, [], _, h => by simp [fieldsB] at h

def lfB : Shape → Bool
  | .lf => true
  | _ => false
def kindB (D : Tabs) (k : TK) (sh : Shape) (d : TypeDesc) : Bool := match k, d with
  | .int k, .int k' => lfB sh && eqK k k'
  | .bool, .bool => lfB sh
  | .str, .string => lfB sh
  | .ptr e, .pointer e' => lfB sh && Nat.beq e e'
  | .slice e, .slice e' => lfB sh && Nat.beq e e'
  | .map a b, .map a' b' => lfB sh && Nat.beq a a' && Nat.beq b b'
  | .func, .func _ _ _ => lfB sh
  | .arr n e, .array n' e' => Nat.beq n n' && Nat.beq e e' && (match lookT D.ty e with | some j => Shape.eqb sh (.ar n j.sh) | none => false)
  | .strct fs, .struct fields => match sh with
    | .nd shs => fieldsB D fields.toList fs shs 0
    | _ => false
  | _, _ => false
theorem kindB_of {D : Tabs} {k : TK} {sh : Shape} {d : TypeDesc} (h : kindB D k sh d = true) : KindOK D k sh d := by
  have hl : ∀ {sh : Shape}, lfB sh = true → sh = .lf := by intro sh h; cases sh <;> first | rfl | simp [lfB] at h
  unfold kindB at h
  split at h
  · simp only [Bool.and_eq_true] at h; exact ⟨hl h.1, by rw [eqK_of h.2]⟩
  · exact ⟨hl h, rfl⟩
  · exact ⟨hl h, rfl⟩
  · simp only [Bool.and_eq_true] at h; exact ⟨hl h.1, by rw [Nat.eq_of_beq_eq_true h.2]⟩
  · simp only [Bool.and_eq_true] at h; exact ⟨hl h.1, by rw [Nat.eq_of_beq_eq_true h.2]⟩
  · simp only [Bool.and_eq_true] at h; exact ⟨hl h.1.1, by rw [Nat.eq_of_beq_eq_true h.1.2, Nat.eq_of_beq_eq_true h.2]⟩
  · exact ⟨hl h, _, _, _, rfl⟩
  · simp only [Bool.and_eq_true] at h
    obtain ⟨⟨h1, h2⟩, h3⟩ := h
    split at h3
    · rename_i j hj
      exact ⟨by rw [Nat.eq_of_beq_eq_true h1, Nat.eq_of_beq_eq_true h2], j, hj, eqb_of _ _ h3⟩
    · simp at h3
  · split at h
    · rename_i fs fields _ shs
      obtain ⟨h1, h2, h3⟩ := fieldsB_of _ _ _ _ h
      refine ⟨fields, shs, rfl, rfl, by simpa using h1, h2, fun i f hf => ?_⟩
      obtain ⟨j, k1, k2, k3, k4, k5⟩ := h3 i f (by simpa using hf)
      exact ⟨j, k1, k2, k3, by simpa using k4, k5⟩
    · simp at h
  · simp at h

def tyB (P : Program) (D : Tabs) (t : Nat) (ti : TI) : Bool := match P.underlying t with
  | none => false
  | some d => match P.info? t with
    | none => false
    | some i => match i.zero with
      | none => false
      | some z => Nat.beq i.size ti.sh.size && Nat.beq i.bytes ti.bytes && kindB D ti.k ti.sh d && Shape.eqb ti.zero.shape ti.sh && zeroB ti.zero z && Nat.blt ti.sh.depth 1000 && !(P.eqGuardType P.depth t) && !(P.stoodInHeld t)
theorem tyB_of {P : Program} {D : Tabs} {t : Nat} {ti : TI} (h : tyB P D t ti = true) : TyOK P D t ti := by
  unfold tyB at h
  split at h
  · simp at h
  · rename_i d hd
    split at h
    · simp at h
    · rename_i i hi
      split at h
      · simp at h
      · rename_i z hz
        simp only [Bool.and_eq_true, Bool.not_eq_true'] at h
        obtain ⟨⟨⟨⟨⟨⟨⟨h1, h2⟩, h3⟩, h4⟩, h5⟩, h6⟩, h7⟩, h8⟩ := h
        exact ⟨⟨d, i, z, hd, hi, Nat.eq_of_beq_eq_true h1, Nat.eq_of_beq_eq_true h2, kindB_of h3, hz, eqb_of _ _ h4, (zeroB_of h5 ⟨default, fun _ => 0, [], fun _ => .dead, 0⟩ []).1, fun E shs => (zeroB_of h5 E shs).2⟩,
          Nat.le_of_ble_eq_true h6, h7, h8⟩
def tabB (P : Program) (D : Tabs) : List (Nat × TI) → Bool
  | [] => true
  | (t, ti) :: l => tyB P D t ti && tabB P D l
theorem tabB_of {P : Program} {D : Tabs} : ∀ {l : List (Nat × TI)}, tabB P D l = true → ∀ t ti, lookT l t = some ti → TyOK P D t ti
  | [], _, t, ti, h => by simp [lookT] at h
  | (k, v) :: l, hb, t, ti, h => by
    simp only [tabB, Bool.and_eq_true] at hb
    simp only [lookT] at h
    split at h
    · rename_i e
      simp only [Option.some.injEq] at h
      subst h
      rw [← Nat.eq_of_beq_eq_true e]
      exact tyB_of hb.1
    · exact tabB_of hb.2 t ti h
theorem tabOK_of {P : Program} {D : Tabs} (h : tabB P D D.ty = true) : TabOK P D := tabB_of h
end Go.WL
namespace Go.WL
open Go.RowKit

/-- The world as a call finds it: all that lies there lies for good. -/
def ground (w : World) : Env := ⟨w, fun b => match w.heap[b]? with | some (.cells c _ _) => c.size | _ => 0, [], fun _ => .dead, 0⟩

theorem ground_cell {w : World} {b o : Nat} {u : Value} (h : w.cell? ⟨b, o, none⟩ = some u) : o < (ground w).lim b := by
  simp only [World.cell?] at h
  simp only [ground]
  split at h
  · rename_i c _ _ hc
    rw [hc]
    simp at h
    exact (Array.getElem?_eq_some_iff.1 h).1
  · simp at h

theorem ground_sim {D : Tabs} {w : World} (hg : ∀ g v, lookV D.gl g = some v → v.pure = true ∧ ∃ cs, PR w (ground w).lim v cs ∧ Lies w (ground w).lim ⟨g, 0, none⟩ cs) : MSim D (ground w) (boxesOf []) (AV.rowss []) := by
  refine ⟨rfl, fun id c f b h => by simp [boxesOf] at h, fun r hr => by simp [AV.rowss] at hr, by simp [claims, ground, AV.rowss], fun b o ho => ?_, hg⟩
  simp only [ground] at ho ⊢
  split at ho
  · rename_i c _ _ hc
    simp only [World.cell?, hc]
    exact ⟨c[o], by simp [ho]⟩
  · omega

/-- What lies in a slice that came in. -/
theorem in_row {w : World} {k : IntKind} {a : Option Addr} {len cap : Nat} {zs : List Int}
    (h : (a = none ∧ len = 0 ∧ cap = 0 ∧ zs = []) ∨ ∃ x, a = some x ∧ len ≤ cap ∧ cap ≤ maxLen ∧ zs.length = cap ∧ (∀ i, i < zs.length → w.cell? (x.add i) = some (.int k (zs.getD i 0))) ∧ ∀ n ∈ zs, (Lit.int k n).wf = true) :
    Rep0 (ground w) [] (.sl .lf ((zs.take len).map fun n => .sc (.int k n)) .ro) (.slice a len cap) ∧ (zs.take len).length = len ∧ ∀ n ∈ zs.take len, (Lit.int k n).wf = true := by
  have all : ∀ l : List Int, allSh .lf (l.map fun n => .sc (.int k n)) := by
    intro l x hx
    obtain ⟨n, _, rfl⟩ := List.mem_map.1 hx
    exact ⟨rfl, rfl⟩
  rcases h with ⟨rfl, rfl, rfl, rfl⟩ | ⟨x, rfl, h1, h2, h3, h4, h5⟩
  · refine ⟨(rep0_lf rfl).2 ⟨⟨none, 0, rfl, Nat.le_refl _, fun _ => rfl, all _, fun _ => rfl, .inl rfl⟩, fun r hr => by simp at hr⟩, rfl, by simp⟩
  · have hl : (zs.take len).length = len := by simp; omega
    refine ⟨(rep0_lf rfl).2 ⟨⟨some x, cap, by rw [List.length_map, hl], by rw [List.length_map, hl]; exact h1, fun e => by simp at e, all _, fun e => by simp at e, ?_⟩, fun r hr => by simp at hr⟩, hl, fun n hn => h5 n (List.mem_of_mem_take hn)⟩
    by_cases h0 : len = 0
    · left; subst h0; simp
    · right
      have hsp : x.spot = none := by
        have h6 := h4 0 (by omega)
        cases hs : x.spot with
        | none => rfl
        | some p =>
          have e : (x.add 0).spot = some p := by simp [Addr.add, hs]
          simp only [World.cell?, e, Option.isSome_some, if_true] at h6
          split at h6 <;> simp at h6
      refine ⟨x, (zs.take len).map fun n => [.int k n], rfl, ?_, hsp, fun i u hu => ?_, fun _ => ?_⟩
      · generalize zs.take len = l
        induction l with
        | nil => rfl
        | cons n l ih => exact ⟨[.int k n], _, rfl, ⟨rfl, rfl⟩, ih⟩
      · have e : ((zs.take len).map fun n => [Value.int k n]).flatten = (zs.take len).map fun n => .int k n := by
          generalize zs.take len = l
          induction l with
          | nil => rfl
          | cons n l ih => simp [ih]
        rw [e, List.getElem?_map] at hu
        have hi : i < len := by
          cases hz : (zs.take len)[i]? with
          | none => simp [hz] at hu
          | some z => have := (List.getElem?_eq_some_iff.1 hz).1; omega
        rw [List.getElem?_take_of_lt hi, List.getElem?_eq_getElem (by omega)] at hu
        simp only [Option.map_some, Option.some.injEq] at hu
        have := h4 i (by omega)
        rw [add_eq hsp] at this
        rw [show (ground w).w = w from rfl, this, ← hu]
        simp [List.getD_eq_getElem?_getD, List.getElem?_eq_getElem (show i < zs.length by omega)]
      · have e : ((zs.take len).map fun n => [Value.int k n]).flatten.length = len := by
          rw [List.length_flatten]
          simp only [List.map_map]
          have : (List.length ∘ fun n => [Value.int k n]) = fun _ => 1 := by funext n; rfl
          rw [this, List.map_const', List.sum_replicate_nat]
          omega
        rw [e]
        have := h4 (len - 1) (by omega)
        rw [add_eq hsp] at this
        have := ground_cell this
        omega

/-- Bytes are bytes. -/
theorem as_bytes : ∀ (l : List Int), (∀ n ∈ l, (Lit.int .u8 n).wf = true) → ∃ bs : List UInt8, (l.map fun n => AV.sc (.int .u8 n)) = by8 bs ∧ bs.length = l.length
  | [], _ => ⟨[], rfl, rfl⟩
  | n :: l, h => by
    obtain ⟨bs, h1, h2⟩ := as_bytes l fun m hm => h m (List.mem_cons_of_mem _ hm)
    have hn := h n (by simp)
    have hr : 0 ≤ n ∧ n < 256 := by
      simp [Lit.wf, IntKind.min, IntKind.max, IntKind.signed, IntKind.bits] at hn
      omega
    refine ⟨UInt8.ofNat n.toNat :: bs, ?_, by simp [h2]⟩
    simp only [List.map_cons, by8] at h1 ⊢
    rw [h1]
    congr 3
    simp
    omega
theorem in_bytes {w : World} {a : Option Addr} {len cap : Nat} {zs : List Int}
    (h : (a = none ∧ len = 0 ∧ cap = 0 ∧ zs = []) ∨ ∃ x, a = some x ∧ len ≤ cap ∧ cap ≤ maxLen ∧ zs.length = cap ∧ (∀ i, i < zs.length → w.cell? (x.add i) = some (.int .u8 (zs.getD i 0))) ∧ ∀ n ∈ zs, (Lit.int .u8 n).wf = true) :
    ∃ bs : List UInt8, Rep0 (ground w) [] (.sl .lf (by8 bs) .ro) (.slice a len cap) ∧ bs.length = len := by
  obtain ⟨h1, h2, h3⟩ := in_row h
  obtain ⟨bs, h4, h5⟩ := as_bytes _ h3
  rw [h4] at h1
  exact ⟨bs, h1, h5.trans h2⟩

/-- A law's contract says that it returns true: so its call does, and leaves what was there. -/
theorem law_of {P : Program} {D : Tabs} {f : Nat} {fn : Func} {args : List AV} {us : List Value} {w : World} (hf : P.funcs[f]? = some fn) (hb : fn.body.isNone = false) (hname : (fn.name == "runtime.NumGoroutine") = false)
    (hg : ∀ g v, lookV D.gl g = some v → v.pure = true ∧ ∃ cs, PR w (ground w).lim v cs ∧ Lies w (ground w).lim ⟨g, 0, none⟩ cs)
    (h : FnOK P D f args [] fun r _ => r = .sc (.bool true)) (ha : RepL (ground w) [] args us) : Calls P f us.toArray w fun e w' => e = .returned (.bool true) ∧ Below w.heap.size w w' := by
  have hx := h.run (ground w) us (ground_sim hg) rfl ha
  rcases hx with ⟨fn', h1, h2, h3, h4⟩ | ⟨v, w', h1, _⟩
  · refine h4.mono fun e w' ⟨v, he, E', r, st', e1, _, e3, e4, _, e6⟩ => ?_
    subst e6
    obtain ⟨hv, _⟩ := rep_sc.1 e3
    subst he hv e1
    refine ⟨rfl, e4.os, e4.tape, e4.output, e4.size, fun k hk => (e4.same k hk fun hc => ?_).1⟩
    simp [claims, ground, AV.rowss] at hc
  · exfalso
    have hb' : fn.body ≠ none := by intro e; simp [e] at hb
    have hn' : fn.name ≠ "runtime.NumGoroutine" := by simpa using hname
    simp [callFunc, hf, hn', hb'] at h1
end Go.WL
