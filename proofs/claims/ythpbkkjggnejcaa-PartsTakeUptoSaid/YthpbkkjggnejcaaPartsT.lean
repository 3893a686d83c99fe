/-
  Package parts, the document's: what stands while a packet is taken.
-/
import Derived.Test.YthpbkkjggnejcaaPartsS
namespace Go.Proofs.Ythpbkkjggnejcaa
open Go.RowKit
set_option maxRecDepth 100000

theorem Row.bk_full {α : Type} {r : Rec α} {e : TypeId} {w : World} {b n : Nat} {L : List α} (h : Row w e r.k ⟨some ⟨b, 0, none⟩, n, n⟩ (r.cells L)) (hl : L.length = n) : Bk w b (r.cells L) e := by
  obtain ⟨g1, g2, g3, g4⟩ := h
  rcases g4 with ⟨g5, _⟩ | ⟨b', rest, g5, g6, g7⟩
  · cases g5
  · simp only [Option.some.injEq, Addr.mk.injEq] at g5
    obtain ⟨rfl, _⟩ := g5
    have hr0 : rest = [] := by
      apply List.eq_nil_of_length_eq_zero
      have : (r.cells L).length = n * r.k := by rw [Rec.cells_len, hl]
      have g7 : (r.cells L).length + rest.length = n * r.k := g7
      omega
    rw [hr0, List.append_nil] at g6
    exact g6
theorem stStr {w : World} {b n pl : Nat} {L : List ByteArray} {x : ByteArray} {K : World → Prop} (hb : Bk w b (strR.cells L) 9) (hL : L.length = n) (hn : n ≤ 1000) (hpl : pl < n) (k : ∀ w', Bk w' b (strR.cells (L.set pl x)) 9 → Ext [b] w w' → K w') :
    VIx none (some ⟨b, 0, none⟩) n (pl : Int) fun (a : Addr) => VSt none w (Addr.add a ((Int.toNat (pl : Int)) * 1)) [.string x] K := by
  have hrow : Row w 9 strR.k ⟨some ⟨b, 0, none⟩, n, n⟩ (strR.cells L) := Row.of_bk hb (by rw [Rec.cells_len, hL]) (by omega)
  exact Row.putR (r := strR) (j := 0) (vs := [.string x]) (x := x) hrow (by omega) (by show 0 + 1 ≤ 1; omega) rfl rfl (fun a => by rw [add_zero]; rfl) fun w' h' e' => k w' (Row.bk_full h' (by rw [List.length_set]; exact hL)) (e'.mono (fun i hi _ => by simpa [rowB] using hi))
theorem stBool {w : World} {b n pl : Nat} {L : List Bool} {x : Bool} {K : World → Prop} (hb : Bk w b (boolR.cells L) 4) (hL : L.length = n) (hn : n ≤ 1000) (hpl : pl < n) (k : ∀ w', Bk w' b (boolR.cells (L.set pl x)) 4 → Ext [b] w w' → K w') :
    VIx none (some ⟨b, 0, none⟩) n (pl : Int) fun (a : Addr) => VSt none w (Addr.add a ((Int.toNat (pl : Int)) * 1)) [.bool x] K := by
  have hrow : Row w 4 boolR.k ⟨some ⟨b, 0, none⟩, n, n⟩ (boolR.cells L) := Row.of_bk hb (by rw [Rec.cells_len, hL]) (by omega)
  exact Row.putR (r := boolR) (j := 0) (vs := [.bool x]) (x := x) hrow (by omega) (by show 0 + 1 ≤ 1; omega) rfl rfl (fun a => by rw [add_zero]; rfl) fun w' h' e' => k w' (Row.bk_full h' (by rw [List.length_set]; exact hL)) (e'.mono (fun i hi _ => by simpa [rowB] using hi))

def setX (K : List KR) (who : Ky) (sl : Slots) : List KR := K.map fun k => if k.key = who then { k with sl := sl } else k
theorem setX_keys (K : List KR) (who : Ky) (sl : Slots) : (setX K who sl).map (·.key) = K.map (·.key) := by
  unfold setX
  rw [List.map_map]
  apply List.map_congr_left
  intro k _
  simp only [Function.comp]
  split <;> rfl
theorem setX_len (K : List KR) (who : Ky) (sl : Slots) : (setX K who sl).length = K.length := List.length_map ..
theorem abs_setX (K : List KR) (who : Ky) (sl : Slots) : absX (setX K who sl) = setA (absX K) who sl := by
  unfold absX setX setA
  rw [List.map_map, List.map_map]
  apply List.map_congr_left
  intro k _
  simp only [Function.comp]
  split
  · rename_i h; rw [← h]
  · rfl
theorem setX_cells (K : List KR) (who : Ky) (sl : Slots) (h : ∀ k ∈ K, k.key = who → k.sl.length = sl.length) : ktR.cells (setX K who sl) = ktR.cells K := by
  unfold Rec.cells setX
  rw [List.flatMap_map]
  induction K with
  | nil => rfl
  | cons a K ih =>
    rw [List.flatMap_cons, List.flatMap_cons, ih fun k hk => h k (List.mem_cons_of_mem _ hk)]
    congr 1
    split
    · rename_i e
      have := h a (List.mem_cons_self ..) e
      show ktC _ = ktC _
      unfold ktC
      rw [this]
    · rfl
theorem setX_xbs (xb : Nat) (K : List KR) (who : Ky) (sl : Slots) (rs : Sl) : xbs xb (setX K who sl) rs = xbs xb K rs := by
  unfold xbs setX
  congr 2
  rw [List.flatMap_map]
  congr 1
  funext k
  split <;> rfl
section
variable {w0 W W' : World} {xb : Nat} {K K' : List KR} {rs : Sl} {M : List Nat}
theorem XR.neT (h : XR w0 W xb K rs) {b : Nat} {cs : List Value} {t : TypeId} (hb : Bk W b cs t) (h1 : t ≠ 43) (h2 : t ≠ 82) (h3 : t ≠ 9) (h4 : t ≠ 4) : b ∉ xbs xb K rs := by
  intro hm
  rcases xbs_mem.1 hm with rfl | hm | ⟨k, hk, rfl | rfl⟩
  · exact hb.neT h.x h1 rfl
  · obtain ⟨_, hz⟩ := h.o.1.bk_of hm
    exact hb.neT hz h2 rfl
  · exact hb.neT (h.pp k hk) h3 rfl
  · exact hb.neT (h.pt k hk) h4 rfl
theorem XR.uni (h : XR w0 W xb K rs) {k k0 : KR} (hk : k ∈ K) (hk0 : k0 ∈ K) (e : k0.key = k.key) : k0 = k := by
  apply Classical.byContradiction
  intro hne
  obtain ⟨i, hi, rfl⟩ := List.mem_iff_getElem.1 hk0
  obtain ⟨j, hj, rfl⟩ := List.mem_iff_getElem.1 hk
  have h1 : (K.map (·.key))[i]'(by simpa using hi) = (K.map (·.key))[j]'(by simpa using hj) := by simpa using e
  have := (List.getElem_inj h.nd).1 h1
  subst this
  exact hne rfl
/-- one kept message's blocks are written -/
theorem XR.put (h : XR w0 W xb K rs) {k : KR} (hk : k ∈ K) {sl : Slots} (e : Ext [k.pb, k.tb] W W') (hp : Bk W' k.pb (strR.cells (psOf sl)) 9) (ht : Bk W' k.tb (boolR.cells (bsOf sl)) 4) (hl : k.sl.length = sl.length) (hs : slotsOk sl) : XR w0 W' xb (setX K k.key sl) rs := by
  have no : ∀ {q : Nat} {cs : List Value} {t : TypeId}, Bk W q cs t → t ≠ 9 → t ≠ 4 → q ∉ [k.pb, k.tb] := fun hq n1 n2 hm => by
    simp only [List.mem_cons, List.not_mem_nil, or_false] at hm
    rcases hm with rfl | rfl
    · exact hq.neT (h.pp k hk) n1 rfl
    · exact hq.neT (h.pt k hk) n2 rfl
  have mem : ∀ {k' : KR}, k' ∈ setX K k.key sl → (k' = { k with sl := sl }) ∨ (k' ∈ K ∧ k'.key ≠ k.key) := fun hk' => by
    unfold setX at hk'
    obtain ⟨k0, hk0, rfl⟩ := List.mem_map.1 hk'
    split
    · rename_i e0
      rw [h.uni hk hk0 e0]
      exact .inl rfl
    · rename_i e0
      exact .inr ⟨hk0, e0⟩
  have sep : ∀ k0 ∈ K, k0.key ≠ k.key → k0.pb ∉ [k.pb, k.tb] ∧ k0.tb ∉ [k.pb, k.tb] := fun k0 hk0 e0 => by
    obtain ⟨d2, d3⟩ := h.dis k0 hk0 k hk e0
    simp only [List.mem_cons, List.not_mem_nil, or_false, not_or]
    exact ⟨⟨d2, (h.pp k0 hk0).neT (h.pt k hk) (by decide)⟩, (h.pt k0 hk0).neT (h.pp k hk) (by decide), d3⟩
  refine ⟨h.x.ext e (no h.x (by decide) (by decide)), ?_, by rw [setX_keys]; exact h.nd, by rw [setX_len]; exact h.le, fun k' hk' => ?_, fun k' hk' => ?_, h.ax, fun k' hk' => ?_, fun k1 h1 k2 h2 hne => ?_, fun k' hk' => ?_⟩
  · have ho := h.o.ext e (fun b hb => by
      obtain ⟨_, hz⟩ := h.o.1.bk_of hb
      exact no hz (by decide) (by decide))
    refine ⟨?_, ho.2⟩
    rw [setX_cells K k.key sl (fun k0 hk0 e0 => by rw [h.uni hk hk0 e0]; exact hl)]
    exact ho.1
  · rcases mem hk' with rfl | ⟨h1, h2⟩
    · exact hp
    · exact (h.pp k' h1).ext e (sep k' h1 h2).1
  · rcases mem hk' with rfl | ⟨h1, h2⟩
    · exact ht
    · exact (h.pt k' h1).ext e (sep k' h1 h2).2
  · rcases mem hk' with rfl | ⟨h1, h2⟩
    · exact h.ak k hk
    · exact h.ak k' h1
  · rcases mem h1 with rfl | ⟨h1, g1⟩
    · rcases mem h2 with rfl | ⟨h2, g2⟩
      · exact absurd rfl hne
      · exact h.dis k hk k2 h2 hne
    · rcases mem h2 with rfl | ⟨h2, g2⟩
      · exact h.dis k1 h1 k hk hne
      · exact h.dis k1 h1 k2 h2 hne
  · rcases mem hk' with rfl | ⟨h1, h2⟩
    · exact hs
    · exact h.ok k' h1
end
/-- what stands while a packet is taken -/
structure XT (w0 W : World) (xb : Nat) (K : List KR) (rs : Sl) (pb : Nat) (p : PT) (K1 : List KR) (rs1 : Sl) (W1 : World) : Prop where
  xr : XR w0 W1 xb K1 rs1
  e : Ext (xbs xb K rs) W W1
  i : ∀ b ∈ xbs xb K1 rs1, b ∈ xbs xb K rs ∨ W.heap.size ≤ b
  kp : Bk W1 pb (ptC p) 78
section
variable {w0 W W1 W2 : World} {xb pb : Nat} {K K1 K2 : List KR} {rs rs1 rs2 : Sl} {p : PT}
theorem XT.ext0 (h : XT w0 W xb K rs pb p K1 rs1 W1) (e : Ext [] W1 W2) : XT w0 W xb K rs pb p K1 rs1 W2 := ⟨h.xr.ext0 e, h.e.then0 e, h.i, h.kp.ext e⟩
theorem XT.to (h : XT w0 W xb K rs pb p K1 rs1 W1) : XTo w0 W xb K rs K1 W1 := ⟨rs1, h.xr, h.e, h.i⟩
theorem XT.np (h : XT w0 W xb K rs pb p K1 rs1 W1) : pb ∉ xbs xb K1 rs1 := h.xr.neT h.kp (by decide) (by decide) (by decide) (by decide)
theorem XT.step (h : XT w0 W xb K rs pb p K1 rs1 W1) (g : XTo w0 W1 xb K1 rs1 K2 W2) : ∃ rs2, XT w0 W xb K rs pb p K2 rs2 W2 := by
  obtain ⟨rs2, hX, e, i⟩ := g
  have z := h.e.size
  refine ⟨rs2, hX, h.e.then e (fun b hb hlt => ?_), fun b hb => ?_, h.kp.ext e h.np⟩
  · rcases h.i b hb with h' | h'
    · exact h'
    · omega
  · rcases i b hb with h' | h'
    · exact h.i b h'
    · exact .inr (by omega)
/-- a message of which nothing is there is put behind -/
theorem XT.new (h : XT w0 W xb K rs pb p K1 rs1 W1) {who : Ky} {n pb2 tb kb : Nat} (e : Ext [] W1 W2) (hn : 2 ≤ n ∧ n ≤ 22) (hK : K1.length ≤ 15) (hno : ∀ k ∈ K1, k.key ≠ who)
    (hp : Bk W2 pb2 (strR.cells (psOf (List.replicate n none))) 9) (ht : Bk W2 tb (boolR.cells (bsOf (List.replicate n none))) 4) (gp : W1.heap.size ≤ pb2) (gt : W1.heap.size ≤ tb)
    (hk : Bk W2 kb (ktC ⟨who, pb2, tb, List.replicate n none⟩) 82) {Φ : World → Prop} (k : ∀ rs3 W', XT w0 W xb K rs pb p (K1 ++ [⟨who, pb2, tb, List.replicate n none⟩]) rs3 W' → Φ W') :
    VApp none W2 82 4 64 #[.int .i64 0, .int .i64 0, .slice none 0 0, .slice none 0 0] rs1.base rs1.len rs1.cap 1 (fun news => Seg W2 (some ⟨kb, 0, none⟩) 1 4 news) fun (l : Sl) (w16 : World) =>
      VNN none (some ⟨xb, 0, none⟩) fun (a : Addr) => VSt none w16 a [.slice l.base l.len l.cap] fun (w17 : World) => Φ w17 := by
  have h2 := h.ext0 e
  have z0 : w0.heap.size ≤ W2.heap.size := by have := h.xr.ax; have := h2.xr.x.lt; omega
  have zz := h.e.size
  refine VApp.recB (r := ktR) (news := [⟨who, pb2, tb, List.replicate n none⟩]) h2.xr.o z0 (Seg.of_bk hk rfl rfl) rfl rfl (by omega) (by omega) fun rs3 w3 ho3 e3 hbl => ?_
  have nO : ∀ {q : Nat} {cs : List Value} {t : TypeId}, Bk W2 q cs t → t ≠ 82 → Bk w3 q cs t := fun hq hne => hq.ext e3 (fun hi => by
    obtain ⟨_, hz⟩ := h2.xr.o.1.bk_of hi
    exact hq.neT hz hne rfl)
  have hx3 := nO h2.xr.x (by decide)
  refine VNN.i (VSt.bk hx3 rfl (by simp) fun w4 hk4 e4 => ?_)
  have hk4 : Bk w4 xb [.slice rs3.base rs3.len rs3.cap] 43 := hk4
  have nA : ∀ {q : Nat} {cs : List Value} {t : TypeId}, Bk W2 q cs t → t ≠ 82 → t ≠ 43 → Bk w4 q cs t := fun hq h1 h2 => by
    have q3 := nO hq h1
    exact q3.ext e4 (by have := q3.neT hx3 h2; simpa using this)
  have eF : Ext (xbs xb K1 rs1) W1 w4 := ((e.mono (N := xbs xb K1 rs1) (by simp)).then e3 (fun i hi _ => xbs_mem.2 (.inr (.inl hi)))).then e4 (fun i hi _ => by simp at hi; subst hi; exact xbs_mem.2 (.inl rfl))
  have lt1 : ∀ k ∈ K1, k.pb < W1.heap.size ∧ k.tb < W1.heap.size := fun k hk => ⟨(h.xr.pp k hk).lt, (h.xr.pt k hk).lt⟩
  have z1 := e.size
  have z01 : w0.heap.size ≤ W1.heap.size := by have := h.xr.ax; have := h.xr.x.lt; omega
  refine k rs3 w4 ⟨⟨hk4, ?_, ?_, by rw [List.length_append]; simp; omega, fun k hk => ?_, fun k hk => ?_, h.xr.ax, fun k hk => ?_, fun k1 h1 k2 h2 hne => ?_, fun k hk => ?_⟩, ?_, fun b hb => ?_, nA h2.kp (by decide) (by decide)⟩
  · exact ho3.ext e4 (fun i hi hm => by
      simp at hm; subst hm
      obtain ⟨_, hz⟩ := ho3.1.bk_of hi
      exact hz.neT hx3 (by decide) rfl)
  · rw [List.map_append, List.nodup_append]
    refine ⟨h.xr.nd, by simp, fun x hx y hy => ?_⟩
    simp only [List.map_cons, List.map_nil, List.mem_singleton] at hy
    subst hy
    obtain ⟨k, hk, rfl⟩ := List.mem_map.1 hx
    exact hno k hk
  · rcases List.mem_append.1 hk with hk | hk
    · exact nA (h2.xr.pp k hk) (by decide) (by decide)
    · rw [List.mem_singleton.1 hk]
      exact nA hp (by decide) (by decide)
  · rcases List.mem_append.1 hk with hk | hk
    · exact nA (h2.xr.pt k hk) (by decide) (by decide)
    · rw [List.mem_singleton.1 hk]
      exact nA ht (by decide) (by decide)
  · rcases List.mem_append.1 hk with hk | hk
    · exact h.xr.ak k hk
    · rw [List.mem_singleton.1 hk]
      exact ⟨Nat.le_trans z01 gp, Nat.le_trans z01 gt⟩
  · rcases List.mem_append.1 h1 with h1 | h1
    · rcases List.mem_append.1 h2 with h2 | h2
      · exact h.xr.dis k1 h1 k2 h2 hne
      · rw [List.mem_singleton.1 h2]
        obtain ⟨l1, l2⟩ := lt1 k1 h1
        exact ⟨by show k1.pb ≠ pb2; omega, by show k1.tb ≠ tb; omega⟩
    · rcases List.mem_append.1 h2 with h2 | h2
      · rw [List.mem_singleton.1 h1]
        obtain ⟨l1, l2⟩ := lt1 k2 h2
        exact ⟨by show pb2 ≠ k2.pb; omega, by show tb ≠ k2.tb; omega⟩
      · rw [List.mem_singleton.1 h1, List.mem_singleton.1 h2] at hne
        exact absurd rfl hne
  · rcases List.mem_append.1 hk with hk | hk
    · exact h.xr.ok k hk
    · rw [List.mem_singleton.1 hk]
      exact slotsOk_rep hn
  · refine h.e.then eF fun i hi hlt => ?_
    rcases h.i i hi with h' | h'
    · exact h'
    · omega
  · rcases xbs_mem.1 hb with rfl | hb | ⟨k, hk, hb⟩
    · exact .inl (xbs_mem.2 (.inl rfl))
    · rcases hbl b hb with h' | h'
      · exact h.i b (xbs_mem.2 (.inr (.inl h')))
      · exact .inr (by omega)
    · rcases List.mem_append.1 hk with hk | hk
      · exact h.i b (xbs_mem.2 (.inr (.inr ⟨k, hk, hb⟩)))
      · rw [List.mem_singleton.1 hk] at hb
        rcases hb with rfl | rfl
        · exact .inr (Nat.le_trans zz gp)
        · exact .inr (Nat.le_trans zz gt)
end
end Go.Proofs.Ythpbkkjggnejcaa
