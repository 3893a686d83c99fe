/-
  Package parts: a message is begun.
-/
import Derived.Test.YthpbkkjggnejcaaPartsG
namespace Go.Proofs.Ythpbkkjggnejcaa
open Go.RowKit
set_option maxRecDepth 100000

theorem psOf_rep (n : Nat) : psOf (List.replicate n none) = List.replicate n ByteArray.empty := by unfold psOf; rw [List.map_replicate]; rfl
theorem bsOf_rep (n : Nat) : bsOf (List.replicate n none) = List.replicate n false := by unfold bsOf; rw [List.map_replicate]; rfl
theorem leftOf_rep (n : Nat) : leftOf (List.replicate n none) = n := by
  unfold leftOf
  rw [List.countP_replicate]; simp
theorem slotsOk_rep {n : Nat} (h : 2 ≤ n ∧ n ≤ 22) : slotsOk (List.replicate n none) := by
  refine ⟨by simp; omega, by simp; omega, fun i d hi => ?_⟩
  rw [List.getElem?_replicate] at hi
  split at hi <;> cases hi
/-- records put behind an own row; where the new row lies -/
theorem VApp.recB {α : Type} {r : Rec α} {e : TypeId} {w0 w : World} {s : Sl} {L news : List α} {m bytes : Nat} {zc : Array Value} {src : List Value → Prop} {K : Sl → World → Prop} (h : OwnR r e w0 w s L) (e0 : w0.heap.size ≤ w.heap.size) (hs : src (r.cells news)) (hm : news.length = m) (hz : zc.size = r.k)
    (hb : (L.length + m) * bytes ≤ 140737488355328) (h63 : L.length + m ≤ 9223372036854775807)
    (k : ∀ s' w', OwnR r e w0 w' s' (L ++ news) → Ext (rowB s) w w' → (∀ b ∈ rowB s', b ∈ rowB s ∨ b = w.heap.size) → K s' w') : VApp none w e r.k bytes zc s.base s.len s.cap m src K := by
  have hl := h.len
  refine VApp.row (news := r.cells news) h.1 hz hs (by rw [Rec.cells_len, hm]) (Rec.cells_all _) (by rw [hl]; exact hb) (by omega) fun s' w' hr hlen he hbl _ => ?_
  rw [← Rec.cells_app] at hr
  refine k s' w' ⟨hr, fun b hb => ?_⟩ he hbl
  rcases hbl b hb with h' | h'
  · exact h.2 b h'
  · omega
def roomE (K : List KE) : List KE := if K.length = 16 then K.tail else K
theorem drop_head {k : KE} {K : List KE} (h : ((k :: K).map (·.key)).Nodup) : dropE (k :: K) k.key = K := by
  unfold dropE
  simp only [List.map_cons, List.nodup_cons] at h
  rw [List.filter_cons_of_neg (by simp), List.filter_eq_self]
  intro x hx
  have : x.key ≠ k.key := fun e => h.1 (by rw [← e]; exact List.mem_map_of_mem hx)
  simp [this]
theorem roomE_mem {K : List KE} {k : KE} (h : k ∈ roomE K) : k ∈ K := by
  unfold roomE at h
  split at h
  · exact List.mem_of_mem_tail h
  · exact h
section
variable {w0 W W' : World} {jb mb : Nat} {K : List KE} {os : Sl} {F : Ky → Option Addr} {M : List Nat}
theorem begin_spec (who : Ky) (n : Nat) (hn : 2 ≤ n ∧ n ≤ 22) (h : JR w0 W jb K mb os F) (hno : ∀ k ∈ K, k.key ≠ who) :
    Calls Try.prog 26 #[.pointer (some ⟨jb, 0, none⟩), .agg #[.int .i64 who.1, .int .i64 who.2], .int .i64 (n : Int)] W fun e w' =>
      ∃ wb pb tb, e = .returned (.pointer (some ⟨wb, 0, none⟩)) ∧ JTo w0 W jb K mb os (roomE K ++ [⟨who, wb, pb, tb, List.replicate n none⟩]) w' := by
  refine sh_parts_Joiner_begin_ok _ _ _ _ _ _ ?_
  unfold sh_parts_Joiner_begin
  refine VNw.i fun b w1 hb hk1 e1 => ?_
  have h1 := h.ext0 e1
  have hold := h.old
  have hk1 : Bk w1 b [.int .i64 who.1, .int .i64 who.2] 69 := hk1
  have hlen : os.len = K.length := by have := h.o.len; rw [List.length_map] at this; exact this
  have hbj : b ∉ jbs jb K mb os := fun hi => by have := (hold b hi).2; omega
  have hrd1 := Rd.of_bk (i := 0) (vs := [.map (some mb), .slice os.base os.len os.cap]) h1.j rfl
  refine ⟨fun W1 => ∃ os1 F1, JR w0 W1 jb (roomE K) mb os1 F1 ∧ Ext (jbs jb K mb os) W W1 ∧ (∀ b ∈ jbs jb (roomE K) mb os1, b ∈ jbs jb K mb os ∨ W.heap.size ≤ b) ∧ Bk W1 b [.int .i64 who.1, .int .i64 who.2] 69, ?_, ?_⟩
  · refine VNN.i (VLd.s os (hrd1.fld 1 rfl) (VIf.mk (fun hc => ?_) (fun hc => ?_)))
    · have hc : K.length = 16 := by
        rw [hlen] at hc
        have : ((K.length : Nat) : Int) = 16 := by simpa using hc
        omega
      refine VNN.i (VLd.s os (hrd1.fld 1 rfl) ?_)
      cases hK : K with
      | nil => rw [hK] at hc; simp at hc
      | cons k0 K0 =>
      have hko := h1.o.in_.1
      rw [hK] at hko
      refine VIx.i' (r := kyR) (j := 0) hko (by simp) fun a hr => ?_
      have hr : Rd w1 a [.int .i64 k0.key.1, .int .i64 k0.key.2] := by
        have := hr
        rw [Nat.zero_mul, add_zero] at this
        exact this
      refine VLd.i2 (t := .int .i64) (u := .int .i64) k0.key.1 k0.key.2 hr ?_
      refine VCall.i (forget_spec k0.key h1) ?_
      rintro e w2 ⟨rfl, ⟨os', F', hJ, e2, hin⟩, _⟩
      refine exW.i0 rfl ?_
      have hd : dropE K k0.key = roomE K := by
        have := h.nd
        rw [hK] at this hc ⊢
        unfold roomE
        rw [if_pos hc, drop_head this]; rfl
      rw [hd] at hJ hin
      rw [← hK]
      refine ⟨os', F', hJ, ((e1.mono (N := jbs jb K mb os) (by simp)).then e2 (fun i hi _ => hi)), fun b' hb' => ?_, hk1.ext e2 hbj⟩
      rcases hin b' hb' with h' | h'
      · exact .inl h'
      · exact .inr (Nat.le_trans e1.size h')
    · have hc : K.length ≠ 16 := by
        rw [hlen] at hc
        have : ¬ ((K.length : Nat) : Int) = 16 := by simpa using hc
        omega
      have hd : roomE K = K := by unfold roomE; rw [if_neg hc]
      rw [hd]
      exact ⟨os, F, h1, e1.mono (by simp), fun b' hb' => .inl hb', hk1⟩
  rintro w3 ⟨os1, F1, h3, e3, hin3, hk3⟩
  have hno3 : ∀ k ∈ roomE K, k.key ≠ who := fun k hk => hno k (roomE_mem hk)
  have hle3 : (roomE K).length ≤ 15 := by
    unfold roomE
    split
    · rw [List.length_tail]; omega
    · have := h.le; omega
  have hold3 := h3.old
  have nn : ((n : Nat) : Int).toNat = n := by simp
  have mk1 : ∀ {w : World} {b : Nat}, Bk w b (madeCells #[.string ByteArray.empty] (((n : Nat) : Int).toNat * 1)).toList 9 → Bk w b (strR.cells (psOf (List.replicate n none))) 9 := fun hk => by
    rw [nn] at hk
    rw [psOf_rep]
    exact Bk.made strR ByteArray.empty rfl rfl hk
  have mk2 : ∀ {w : World} {b : Nat}, Bk w b (madeCells #[.bool false] (((n : Nat) : Int).toNat * 1)).toList 4 → Bk w b (boolR.cells (bsOf (List.replicate n none))) 4 := fun hk => by
    rw [nn] at hk
    rw [bsOf_rep]
    exact Bk.made boolR false rfl rfl hk
  refine ⟨fun p W2 => ∃ wb pb tb, p = some ⟨wb, 0, none⟩ ∧ WRep W2 ⟨who, wb, pb, tb, List.replicate n none⟩ ∧ Ext [] w3 W2 ∧ w3.heap.size ≤ wb ∧ w3.heap.size ≤ pb ∧ w3.heap.size ≤ tb, ?_, ?_⟩
  · intro w4 hw4
    have ed := Ext.drew' hw4
    have zd := ed.size
    refine ⟨?_, ?_⟩
    · refine VMk.i (by omega) (by omega) (by omega) (by omega) fun pb w5 hpb hk5 e5 => VMk.i (by omega) (by omega) (by omega) (by omega) fun tb w6 htb hk6 e6 => VNw.i fun wb w7 hwb hk7 e7 => ?_
      have z5 := e5.size
      have z6 := e6.size
      refine ⟨wb, pb, tb, rfl, ⟨?_, mk1 ((hk5.ext e6).ext e7), mk2 (hk6.ext e7)⟩, ((ed.then0 e5).then0 e6).then0 e7, by omega, by omega, by omega⟩
      simp only [List.length_replicate, leftOf_rep]
      rw [nn] at hk7
      exact hk7
    · refine VMk.i (by omega) (by omega) (by omega) (by omega) fun tb w5 htb hk5 e5 => VMk.i (by omega) (by omega) (by omega) (by omega) fun pb w6 hpb hk6 e6 => VNw.i fun wb w7 hwb hk7 e7 => ?_
      have z5 := e5.size
      have z6 := e6.size
      refine ⟨wb, pb, tb, rfl, ⟨?_, mk1 (hk6.ext e7), mk2 ((hk5.ext e6).ext e7)⟩, ((ed.then0 e5).then0 e6).then0 e7, by omega, by omega, by omega⟩
      simp only [List.length_replicate, leftOf_rep]
      rw [nn] at hk7
      exact hk7
  rintro p w8 ⟨wb, pb, tb, rfl, hwr, e38, gwb, gpb, gtb⟩
  have h8 := h3.ext0 e38
  intro w9 hw9
  have ed9 := Ext.drew' hw9
  have h9 := h8.ext0 ed9
  have hk9 := (hk3.ext e38).ext ed9
  have hwr9 := hwr.ext ed9 (by simp) (by simp) (by simp)
  refine VNN.i (VLd.mp (some mb) (Rd.of_bk h9.j rfl) (VLd.i2 (t := .int .i64) (u := .int .i64) who.1 who.2 (Rd.of_bk hk9 rfl) ?_))
  obtain ⟨w10, hrun, hm10, e10⟩ := h9.m.update who (some ⟨wb, 0, none⟩)
  refine ⟨w10, hrun, ?_⟩
  intro w11 hw11
  have ed11 := Ext.drew' hw11
  have e911 : Ext [mb] w9 w11 := e10.then0 ed11
  have hjm : jb ∉ [mb] := by have := h9.m.ne h9.j; simp; omega
  have nM : ∀ {q : Nat} {cs : List Value} {t : TypeId}, Bk w9 q cs t → Bk w11 q cs t := fun hq => hq.ext e911 (by have := h9.m.ne hq; simp; omega)
  have hj11 := nM h9.j
  have hk11 := nM hk9
  have ho11 := h9.o.ext e911 fun i hi hm => by
    simp at hm; subst hm
    obtain ⟨_, hz⟩ := h9.o.1.bk_of hi
    exact h9.m.ne hz rfl
  have hm11 := hm10.ext ed11 (by simp)
  have hrd11 := Rd.of_bk (i := 0) (vs := [.map (some mb), .slice os1.base os1.len os1.cap]) hj11 rfl
  refine VNN.i (VLd.s os1 (hrd11.fld 1 rfl) (VLd.i2 (t := .int .i64) (u := .int .i64) who.1 who.2 (Rd.of_bk hk11 rfl) ?_))
  refine VNw.i fun b12 w12 hb12 hk12 e12 => ⟨(hrd11.ext e12).fld 1 rfl, ?_⟩
  have hk12 : Bk w12 b12 (kyR.f who) 69 := hk12
  have ho12 := ho11.ext0 e12
  have e312 : Ext [mb] w3 w12 := ((((e38.then0 ed9).mono (N := [mb]) (by simp)).then e911 (fun i hi _ => hi)).then0 e12)
  have z03 : w0.heap.size ≤ w3.heap.size := Nat.le_trans h3.aj (Nat.le_of_lt h3.j.lt)
  refine VApp.recB (r := kyR) (news := [who]) ho12 (Nat.le_trans z03 e312.size) (Seg.of_bk hk12 rfl rfl) rfl rfl (by rw [List.length_map]; omega) (by rw [List.length_map]; omega) fun os2 w13 ho13 e13 hbl => ?_
  have nO : ∀ {q : Nat} {cs : List Value} {t : TypeId}, Bk w12 q cs t → t ≠ 69 → Bk w13 q cs t := fun hq hne => hq.ext e13 (fun hi => by
    obtain ⟨_, hz⟩ := ho12.1.bk_of hi
    exact hq.neT hz hne rfl)
  have hj13 := nO (hj11.ext e12) (by decide)
  refine VNN.i ?_
  simp only [add_blk]
  refine VSt.bk hj13 rfl (by simp) fun w14 hk14 e14 => ?_
  have hk14 : Bk w14 jb [.map (some mb), .slice os2.base os2.len os2.cap] 64 := hk14
  have nA : ∀ {q : Nat} {cs : List Value} {t : TypeId}, Bk w9 q cs t → t ≠ 69 → t ≠ 64 → Bk w14 q cs t := fun hq h1 h2 => by
    have q13 := nO ((nM hq).ext e12) h1
    exact q13.ext e14 (by have := q13.neT hj13 h2; simpa using this)
  have hwrA : ∀ {k : KE}, WRep w9 k → WRep w14 k := fun hw => ⟨nA hw.w (by decide) (by decide), nA hw.p (by decide) (by decide), nA hw.t (by decide) (by decide)⟩
  have hmo : mb ∉ rowB os1 := fun hi => by
    obtain ⟨_, hz⟩ := h9.o.1.bk_of hi
    exact h9.m.ne hz rfl
  have hmj : mb ∉ [jb] := by have := h9.m.ne h9.j; simpa using this
  have z38 := e38.size
  have hro2 : ∀ i ∈ rowB os2, i ∈ rowB os1 ∨ w3.heap.size ≤ i := fun i hi => by
    rcases hbl i hi with h' | h'
    · exact .inl h'
    · have := e312.size
      exact .inr (by omega)
  have hjo2 : ∀ i ∈ rowB os2, i ∉ [jb] := fun i hi hm => by
    simp at hm; subst hm
    obtain ⟨_, hz⟩ := ho13.1.bk_of hi
    exact hz.neT hj13 (by decide) rfl
  have eF : Ext (jbs jb (roomE K) mb os1) w3 w14 := ((e312.mono (N := jbs jb (roomE K) mb os1) (fun i hi => by simp at hi; subst hi; simp [jbs])).then e13 (fun i hi _ => by simp [jbs, hi])).then e14 (fun i hi _ => by simp at hi; subst hi; simp [jbs])
  have lt3 : ∀ k ∈ roomE K, k.wb < w3.heap.size ∧ k.pb < w3.heap.size ∧ k.tb < w3.heap.size := fun k hk => ⟨(h3.wr k hk).w.lt, (h3.wr k hk).p.lt, (h3.wr k hk).t.lt⟩
  refine ⟨wb, pb, tb, rfl, os2, _, ⟨hk14, (((hm11.ext e12 (by simp)).ext e13 hmo).ext e14 hmj), ?_, ?_, by rw [List.length_append]; simp; omega, fun k hk => ?_, fun c hc => ?_, fun k hk => ?_, h.aj, h.am, fun k hk => ?_, fun k1 h1 k2 h2 hne => ?_, fun k hk => ?_⟩, ?_, fun b' hb' => ?_⟩
  · rw [List.map_append]
    exact ho13.ext e14 hjo2
  · rw [List.map_append, List.nodup_append]
    refine ⟨h3.nd, by simp, fun x hx y hy => ?_⟩
    simp only [List.map_cons, List.map_nil, List.mem_singleton] at hy
    subst hy
    obtain ⟨k, hk, rfl⟩ := List.mem_map.1 hx
    exact hno3 k hk
  · show (if who = k.key then some ⟨wb, 0, none⟩ else F1 k.key) = _
    rcases List.mem_append.1 hk with hk | hk
    · rw [if_neg (fun e => hno3 k hk e.symm)]
      exact h3.f k hk
    · rw [List.mem_singleton.1 hk, if_pos rfl]
  · show (if who = c then some ⟨wb, 0, none⟩ else F1 c) = none
    rw [if_neg (fun e => hc _ (List.mem_append_right _ (List.mem_singleton.2 rfl)) e)]
    exact h3.f0 c fun k hk => hc k (List.mem_append_left _ hk)
  · rcases List.mem_append.1 hk with hk | hk
    · exact hwrA (h9.wr k hk)
    · rw [List.mem_singleton.1 hk]
      exact hwrA hwr9
  · rcases List.mem_append.1 hk with hk | hk
    · exact h3.ak k hk
    · rw [List.mem_singleton.1 hk]
      exact ⟨by show _ ≤ wb; omega, by show _ ≤ pb; omega, by show _ ≤ tb; omega⟩
  · rcases List.mem_append.1 h1 with h1 | h1
    · rcases List.mem_append.1 h2 with h2 | h2
      · exact h3.dis k1 h1 k2 h2 hne
      · rw [List.mem_singleton.1 h2]
        obtain ⟨l1, l2, l3⟩ := lt3 k1 h1
        exact ⟨by show k1.wb ≠ wb; omega, by show k1.pb ≠ pb; omega, by show k1.tb ≠ tb; omega⟩
    · rcases List.mem_append.1 h2 with h2 | h2
      · rw [List.mem_singleton.1 h1]
        obtain ⟨l1, l2, l3⟩ := lt3 k2 h2
        exact ⟨by show wb ≠ k2.wb; omega, by show pb ≠ k2.pb; omega, by show tb ≠ k2.tb; omega⟩
      · rw [List.mem_singleton.1 h1, List.mem_singleton.1 h2] at hne
        exact absurd rfl hne
  · rcases List.mem_append.1 hk with hk | hk
    · exact h3.ok k hk
    · rw [List.mem_singleton.1 hk]
      exact slotsOk_rep hn
  · refine e3.then eF fun i hi hlt => ?_
    rcases hin3 i hi with h' | h'
    · exact h'
    · omega
  · have z3 := e3.size
    have old3 : b' ∈ jbs jb (roomE K) mb os1 → b' ∈ jbs jb K mb os ∨ W.heap.size ≤ b' := hin3 b'
    unfold jbs at hb'
    simp only [List.mem_cons, List.mem_append, List.flatMap_append, List.mem_flatMap] at hb'
    rcases hb' with h1 | h1 | h1 | ⟨k, hk, h1⟩ | ⟨k, hk, h1⟩
    · exact old3 (by simp [jbs, h1])
    · exact old3 (by simp [jbs, h1])
    · rcases hro2 b' h1 with h2 | h2
      · exact old3 (by simp [jbs, h2])
      · exact .inr (by omega)
    · refine old3 ?_
      unfold jbs
      simp only [List.mem_cons, List.mem_append, List.mem_flatMap]
      exact .inr (.inr (.inr ⟨k, hk, h1⟩))
    · simp only [List.mem_singleton, List.not_mem_nil, or_false] at hk
      subst hk
      simp only [List.mem_cons, List.not_mem_nil, or_false] at h1
      rcases h1 with rfl | rfl | rfl <;> exact .inr (by omega)
end
end Go.Proofs.Ythpbkkjggnejcaa
