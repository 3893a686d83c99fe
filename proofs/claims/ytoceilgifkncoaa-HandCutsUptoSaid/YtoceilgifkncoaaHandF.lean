/-
  Package hand: the cutter.
-/
import Derived.Test.YtoceilgifkncoaaHandE
namespace Go.Proofs.Ytoceilgifkncoaa
open Go.RowKit
set_option maxRecDepth 100000

structure Cu.ok (n : Nat) (c : Cu) : Prop where
  ne : 1 ≤ c.L.length
  len : c.L.length ≤ n + 1
  all : ∀ p ∈ c.L, p.P.length ≤ n ∧ p.Q.length ≤ n
  many : 0 ≤ c.many ∧ c.many ≤ (n : Int)
theorem Cu.ok.room {n : Nat} {c : Cu} (h : c.ok n) (z : Int) : 1 ≤ (c.room z).L.length ∧ (c.room z).L.length ≤ n + 2 ∧ (∀ p ∈ (c.room z).L, p.P.length ≤ n ∧ p.Q.length ≤ n) ∧ 0 ≤ (c.room z).many ∧ (c.room z).many ≤ (n : Int) := by
  unfold Cu.room
  have := h.len
  have := h.ne
  split
  · refine ⟨by simp, by simp; omega, ?_, by simp, by simp⟩
    intro p hp
    rcases List.mem_append.1 hp with hp | hp
    · exact h.all p hp
    · rw [List.mem_singleton.1 hp]; simp [ptE]
  · exact ⟨by omega, by omega, h.all, h.many⟩
theorem Cu.ok.add {n : Nat} {c : Cu} (h : c.ok n) (z : Int) (f : Pt → Pt) (hf : ∀ p, (f p).P.length ≤ p.P.length + 1 ∧ (f p).Q.length ≤ p.Q.length + 1) : (c.add z f).ok (n + 1) := by
  obtain ⟨h1, h2, h3, h4, h5⟩ := h.room z
  refine ⟨by simp only [Cu.add, addLast, List.length_set]; exact h1, by simp only [Cu.add, addLast, List.length_set]; omega, ?_, by simp only [Cu.add]; omega⟩
  intro p hp
  simp only [Cu.add, addLast] at hp
  rcases List.mem_or_eq_of_mem_set hp with hp | rfl
  · have := h3 p hp; omega
  · have hin : (c.room z).L.getD ((c.room z).L.length - 1) ptE ∈ (c.room z).L := by
      rw [List.getD_eq_getElem?_getD, List.getElem?_eq_getElem (by omega)]
      exact List.getElem_mem _
    have := h3 _ hin
    have := hf ((c.room z).L.getD ((c.room z).L.length - 1) ptE)
    omega
theorem Cu.ok.addP {n : Nat} {c : Cu} (h : c.ok n) (x : Pr) : (c.addP x).ok (n + 1) := h.add _ _ fun p => by simp [Pt.putP]
theorem Cu.ok.addQ {n : Nat} {c : Cu} (h : c.ok n) (x : Ls) : (c.addQ x).ok (n + 1) := h.add _ _ fun p => by simp [Pt.putQ]

structure CuO (w0 w : World) (q : Nat) (s : Sl) (X : List PX) (c : Cu) : Prop where
  bk : Bk w q [.slice s.base s.len s.cap, .int .i64 c.size, .int .i64 c.many] 76
  pt : PtsO w0 w s X
  eq : pts X = c.L
  ge : w0.heap.size ≤ q
section
variable {w0 w w' : World} {q : Nat} {s : Sl} {X : List PX} {c : Cu}
theorem CuO.ext0 (h : CuO w0 w q s X c) (e : Ext [] w w') : CuO w0 w' q s X c := ⟨h.bk.ext e, h.pt.ext0 e, h.eq, h.ge⟩
theorem CuO.len (h : CuO w0 w q s X c) : X.length = c.L.length := by rw [← h.eq]; simp [pts]
theorem PtsO.noQ (h : PtsO w0 w s X) {cs : List Value} (k : Bk w q cs 76) : q ∉ rowB s ∧ ∀ x ∈ X, q ∉ fpt x.1 := by
  refine ⟨fun hb => ?_, fun x hx hb => ?_⟩
  · obtain ⟨_, hk⟩ := h.row.1.bk_of hb
    exact hk.neT k (by decide) rfl
  · have hp := h.all x hx
    simp only [fpt, List.mem_append] at hb
    rcases hb with hb | hb
    · obtain ⟨_, hk⟩ := hp.P.1.bk_of hb
      exact hk.neT k (by decide) rfl
    · obtain ⟨_, hk⟩ := hp.Q.1.bk_of hb
      exact hk.neT k (by decide) rfl
end
theorem full_iff (c : Cu) (n : Int) : ((c.many == 4) || ((decide (c.many > 0)) && (decide ((IntKind.wrap .i64 (c.size + n)) > 4000)))) = decide (c.full n) := by
  rw [Bool.eq_iff_iff]
  simp only [Bool.or_eq_true, Bool.and_eq_true, beq_iff_eq, decide_eq_true_eq]
  exact Iff.rfl
/-- room is made -/
theorem room_walk {w0 W : World} {q : Nat} {s : Sl} {X : List PX} {c : Cu} {n : Int} {N : Nat} (h : CuO w0 W q s X c) (e0 : Ext [] w0 W) (hok : c.ok N) (hN : N ≤ 2000) {Φ : World → Prop}
    (k : ∀ W' s' X', CuO w0 W' q s' X' (c.room n) → Ext [] w0 W' → (∀ b cs t, Bk W b cs t → t ≠ 33 → t ≠ 76 → Bk W' b cs t) → Φ W') :
    VNN none (some ⟨q, 0, none⟩) fun (a21 : Addr) =>
      VLd none W (Addr.add a21 2) [CT.int .i64] fun (v23 : Int) =>
      VNN (some (!(v23 == 4))) (some ⟨q, 0, none⟩) fun (a27 : Addr) =>
      VLd (some (!(v23 == 4))) W (Addr.add a27 2) [CT.int .i64] fun (v29 : Int) =>
      VNN (some ((!(v23 == 4)) && (decide (v29 > 0)))) (some ⟨q, 0, none⟩) fun (a33 : Addr) =>
      VLd (some ((!(v23 == 4)) && (decide (v29 > 0)))) W (Addr.add a33 1) [CT.int .i64] fun (v35 : Int) =>
      VIf ((v23 == 4) || ((decide (v29 > 0)) && (decide ((IntKind.wrap .i64 (v35 + n)) > 4000)))) (
        VNN none (some ⟨q, 0, none⟩) fun (a43 : Addr) =>
        VLd none W a43 [CT.sl] fun (v45 : Sl) =>
        VNw none W (.cells #[.slice none 0 0, .slice none 0 0, .bool false] 33) fun (b47 : Nat) (w5 : World) =>
        VApp none w5 33 3 56 #[.slice none 0 0, .slice none 0 0, .bool false] v45.base v45.len v45.cap 1 (fun news => Seg w5 (some ⟨b47, 0, none⟩) 1 3 news) fun (l48 : Sl) (w6 : World) =>
        VNN none (some ⟨q, 0, none⟩) fun (a49 : Addr) =>
        VSt none w6 a49 [.slice l48.base l48.len l48.cap] fun (w7 : World) =>
        VNN none (some ⟨q, 0, none⟩) fun (a53 : Addr) =>
        VSt none w7 (Addr.add a53 1) [.int .i64 0] fun (w8 : World) =>
        VNN none (some ⟨q, 0, none⟩) fun (a55 : Addr) =>
        VSt none w8 (Addr.add a55 2) [.int .i64 0] fun (w9 : World) =>
        Φ w9
      ) (
        Φ W
      ) := by
  have hl := h.len
  have hcl := hok.len
  refine VNN.i (VLd.i1 (t := .int .i64) c.many (Rd.of_bk h.bk rfl) (VNN.i (VLd.i1 (t := .int .i64) c.many (Rd.of_bk h.bk rfl) (VNN.i (VLd.i1 (t := .int .i64) c.size (Rd.of_bk h.bk rfl) ?_)))))
  rw [full_iff]
  refine VIf.mk (fun hc => ?_) (fun hc => ?_)
  · have hc : c.full n := by simpa using hc
    refine VNN.i (VLd.s s (Rd.of_bk h.bk rfl) ?_)
    refine VNw.i fun b5 w5 hb5 hk5 e5 => ?_
    have h5 := h.ext0 e5
    refine VApp.rec (r := ptR) h5.pt.row (e0.then0 e5) (news := [(⟨none, 0, 0⟩, ⟨none, 0, 0⟩, false)]) (Seg.of_bk hk5 rfl rfl) rfl rfl (by simp; omega) (by simp; omega) fun s6 w6 hr6 e6 ea6 _ => ?_
    have hno := (h5.pt.noQ h5.bk).1
    have hbk6 := h5.bk.ext ea6 hno
    have hp6 : PtsO w0 w6 s6 (X ++ [((⟨none, 0, 0⟩, ⟨none, 0, 0⟩, false), ptE)]) := h.pt.push (x := ((⟨none, 0, 0⟩, ⟨none, 0, 0⟩, false), ptE)) (w := w5) ⟨OwnR.nil _ _ _ _, OwnR.nil _ _ _ _, rfl⟩ e0.size e5 hr6 ea6
    refine VNN.i (VSt.bk hbk6 rfl (by simp) fun w7 hk7 e7 => VNN.i (VSt.bk hk7 rfl (by simp) fun w8 hk8 e8 => VNN.i (VSt.bk hk8 rfl (by simp) fun w9 hk9 e9 => ?_)))
    have e69 : Ext [q] w6 w9 := (e7.then e8 (fun i hi _ => hi)).then e9 (fun i hi _ => hi)
    have hn6 := hp6.noQ hbk6
    refine k w9 s6 _ ⟨?_, hp6.ext e69 (fun b hb hq => hn6.1 (by simp at hq; exact hq ▸ hb)) (fun x hx b hb hq => hn6.2 x hx (by simp at hq; exact hq ▸ hb)), ?_, h.ge⟩ (e6.then e69 (fun i hi hlt => by simp at hi; have := h.ge; omega)) ?_
    · unfold Cu.room; rw [if_pos hc]; exact hk9
    · unfold Cu.room; rw [if_pos hc]; unfold pts; rw [List.map_append]; show pts X ++ _ = _; rw [h.eq]; rfl
    · intro b cs t hk n1 n2
      have hk5' := hk.ext e5
      have hk6' := hk5'.ext ea6 (fun hb => by obtain ⟨_, hz⟩ := h5.pt.row.1.bk_of hb; exact hk5'.neT hz n1 rfl)
      exact hk6'.ext e69 (by have := hk6'.neT hbk6 n2; simpa using this)
  · have hc : ¬ c.full n := by simpa using hc
    refine k W s X ⟨?_, h.pt, ?_, h.ge⟩ e0 (fun b cs t hk _ _ => hk)
    · unfold Cu.room; rw [if_neg hc]; exact h.bk
    · unfold Cu.room; rw [if_neg hc]; exact h.eq
theorem pts_set {X : List PX} {f : Pt → Pt} {v : PtV} (h : 1 ≤ X.length) (hi : X.length - 1 < X.length) : pts (X.set (X.length - 1) (v, f (X[X.length - 1]).2)) = addLast (pts X) f := by
  unfold pts addLast
  rw [List.map_set, List.length_map]
  congr 2
  rw [List.getD_eq_getElem?_getD, List.getElem?_map, List.getElem?_eq_getElem hi]; rfl
end Go.Proofs.Ytoceilgifkncoaa
