/-
  Package parts: a joiner in memory; a message is kept no more.
-/
import Derived.Test.YthpbkkjggnejcaaPartsF
namespace Go.Proofs.Ythpbkkjggnejcaa
open Go.RowKit
set_option maxRecDepth 100000

abbrev Slots := List (Option ByteArray)
structure KE where
  key : Ky
  wb : Nat
  pb : Nat
  tb : Nat
  sl : Slots
def boolR : Rec Bool := ⟨fun b => [.bool b], 1, fun _ => rfl, fun _ => rfl, by omega⟩
def psOf (s : Slots) : List ByteArray := s.map fun x => x.getD ByteArray.empty
def bsOf (s : Slots) : List Bool := s.map fun x => x.isSome
def leftOf (s : Slots) : Nat := s.countP fun x => x.isNone
structure WRep (W : World) (k : KE) : Prop where
  w : Bk W k.wb [.slice (some ⟨k.pb, 0, none⟩) k.sl.length k.sl.length, .slice (some ⟨k.tb, 0, none⟩) k.sl.length k.sl.length, .int .i64 ((leftOf k.sl : Nat) : Int)] 72
  p : Bk W k.pb (strR.cells (psOf k.sl)) 9
  t : Bk W k.tb (boolR.cells (bsOf k.sl)) 4
def slotsOk (s : Slots) : Prop := 2 ≤ s.length ∧ s.length ≤ 22 ∧ ∀ i d, s[i]? = some (some d) → d.size ≤ 380 ∧ (i + 1 < s.length → d.size = 380)
structure JR (w0 W : World) (jb : Nat) (K : List KE) (mb : Nat) (os : Sl) (F : Ky → Option Addr) : Prop where
  j : Bk W jb [.map (some mb), .slice os.base os.len os.cap] 64
  m : TbU kyK W mb F
  o : OwnR kyR 69 w0 W os (K.map (·.key))
  nd : (K.map (·.key)).Nodup
  le : K.length ≤ 16
  f : ∀ k ∈ K, F k.key = some ⟨k.wb, 0, none⟩
  f0 : ∀ c, (∀ k ∈ K, k.key ≠ c) → F c = none
  wr : ∀ k ∈ K, WRep W k
  aj : w0.heap.size ≤ jb
  am : w0.heap.size ≤ mb
  ak : ∀ k ∈ K, w0.heap.size ≤ k.wb ∧ w0.heap.size ≤ k.pb ∧ w0.heap.size ≤ k.tb
  dis : ∀ k1 ∈ K, ∀ k2 ∈ K, k1.key ≠ k2.key → k1.wb ≠ k2.wb ∧ k1.pb ≠ k2.pb ∧ k1.tb ≠ k2.tb
  ok : ∀ k ∈ K, slotsOk k.sl
def jbs (jb : Nat) (K : List KE) (mb : Nat) (os : Sl) : List Nat := jb :: mb :: (rowB os ++ K.flatMap fun k => [k.wb, k.pb, k.tb])
theorem WRep.ext {W W' : World} {k : KE} {M : List Nat} (h : WRep W k) (e : Ext M W W') (h1 : k.wb ∉ M) (h2 : k.pb ∉ M) (h3 : k.tb ∉ M) : WRep W' k := ⟨h.w.ext e h1, h.p.ext e h2, h.t.ext e h3⟩
section
variable {w0 W W' : World} {jb mb : Nat} {K : List KE} {os : Sl} {F : Ky → Option Addr} {M : List Nat}
theorem JR.ext (h : JR w0 W jb K mb os F) (e : Ext M W W') (hm : ∀ b ∈ jbs jb K mb os, b ∉ M) : JR w0 W' jb K mb os F := by
  have hk : ∀ k ∈ K, k.wb ∉ M ∧ k.pb ∉ M ∧ k.tb ∉ M := fun k hk => by
    have : ∀ b ∈ [k.wb, k.pb, k.tb], b ∉ M := fun b hb => hm b (by
      unfold jbs
      simp only [List.mem_cons, List.mem_append, List.mem_flatMap]
      exact .inr (.inr (.inr ⟨k, hk, by simpa using hb⟩)))
    exact ⟨this _ (by simp), this _ (by simp), this _ (by simp)⟩
  exact ⟨h.j.ext e (hm _ (by simp [jbs])), h.m.ext e (hm _ (by simp [jbs])), h.o.ext e fun b hb => hm b (by simp [jbs, hb]), h.nd, h.le, h.f, h.f0, fun k hk' => (h.wr k hk').ext e (hk k hk').1 (hk k hk').2.1 (hk k hk').2.2, h.aj, h.am, h.ak, h.dis, h.ok⟩
theorem JR.ext0 (h : JR w0 W jb K mb os F) (e : Ext [] W W') : JR w0 W' jb K mb os F := h.ext e (by simp)
theorem JR.old (h : JR w0 W jb K mb os F) : ∀ b ∈ jbs jb K mb os, w0.heap.size ≤ b ∧ b < W.heap.size := by
  intro b hb
  unfold jbs at hb
  simp only [List.mem_cons, List.mem_append, List.mem_flatMap] at hb
  rcases hb with rfl | rfl | hb | ⟨k, hk, hb⟩
  · exact ⟨h.aj, h.j.lt⟩
  · exact ⟨h.am, h.m.lt⟩
  · exact ⟨h.o.2 b hb, h.o.1.lt b hb⟩
  · obtain ⟨a1, a2, a3⟩ := h.ak k hk
    have hw := h.wr k hk
    simp only [List.mem_cons, List.not_mem_nil, or_false] at hb
    rcases hb with rfl | rfl | rfl
    · exact ⟨a1, hw.w.lt⟩
    · exact ⟨a2, hw.p.lt⟩
    · exact ⟨a3, hw.t.lt⟩
/-- blocks of the joiner's are of its own types -/
theorem JR.ty (h : JR w0 W jb K mb os F) {b : Nat} (hb : b ∈ jbs jb K mb os) {cs : List Value} {t : TypeId} (k : Bk W b cs t) : t = 64 ∨ t = 69 ∨ t = 72 ∨ t = 9 ∨ t = 4 := by
  have same : ∀ {ds : List Value} {u : TypeId}, Bk W b ds u → t = u := fun hk => Classical.byContradiction fun hne => k.neT hk hne rfl
  unfold jbs at hb
  simp only [List.mem_cons, List.mem_append, List.mem_flatMap] at hb
  rcases hb with rfl | rfl | hb | ⟨ke, hk, hb⟩
  · exact .inl (same h.j)
  · exact absurd rfl (h.m.ne k)
  · obtain ⟨_, hz⟩ := h.o.1.bk_of hb
    exact .inr (.inl (same hz))
  · have hw := h.wr ke hk
    simp only [List.mem_cons, List.not_mem_nil, or_false] at hb
    rcases hb with rfl | rfl | rfl
    · exact .inr (.inr (.inl (same hw.w)))
    · exact .inr (.inr (.inr (.inl (same hw.p))))
    · exact .inr (.inr (.inr (.inr (same hw.t))))
def dropE (K : List KE) (who : Ky) : List KE := K.filter fun k => !decide (k.key = who)
theorem dropE_keys (K : List KE) (who : Ky) : (dropE K who).map (·.key) = rest1 (K.map (·.key)) who := by
  unfold dropE rest1
  rw [List.filter_map]
  rfl
theorem dropE_mem {K : List KE} {who : Ky} {k : KE} : k ∈ dropE K who ↔ k ∈ K ∧ k.key ≠ who := by
  unfold dropE
  rw [List.mem_filter]
  simp
theorem VLd.mp {a : Addr} {w : World} {K : ArrP [CT.mp]} (x : Option Nat) (h : Rd w a [.map x]) (k : K x) : VLd none w a [CT.mp] K := ⟨x, h, k⟩
/-- what the joiner's calls leave -/
def JTo (w0 W : World) (jb : Nat) (K : List KE) (mb : Nat) (os : Sl) (K' : List KE) (W' : World) : Prop :=
  ∃ (os' : Sl) (F' : Ky → Option Addr), JR w0 W' jb K' mb os' F' ∧ Ext (jbs jb K mb os) W W' ∧ ∀ b ∈ jbs jb K' mb os', b ∈ jbs jb K mb os ∨ W.heap.size ≤ b
theorem forget_spec (who : Ky) (h : JR w0 W jb K mb os F) :
    Calls Try.prog 25 #[.pointer (some ⟨jb, 0, none⟩), .agg #[.int .i64 who.1, .int .i64 who.2]] W fun e w' => e = .returned (.tuple #[]) ∧ JTo w0 W jb K mb os (dropE K who) w' ∧ (∀ k ∈ K, WRep w' k) := by
  refine sh_parts_Joiner_forget_ok _ _ _ _ _ ?_
  unfold sh_parts_Joiner_forget
  refine VNw.i fun b w1 hb hk1 e1 => ?_
  intro w2 hw2
  have ed := Ext.drew' hw2
  have e02 := e1.then0 ed
  have h2 := h.ext0 e02
  have hk2 : Bk w2 b [.int .i64 who.1, .int .i64 who.2] 69 := hk1.ext ed
  have hold := h.old
  refine VNN.i (VLd.mp (some mb) (Rd.of_bk h2.j rfl) (VLd.i2 (t := .int .i64) (u := .int .i64) who.1 who.2 (Rd.of_bk hk2 rfl) ?_))
  obtain ⟨w3, hrun, hm3, e3⟩ := h2.m.del (ty := 0) who
  refine ⟨.tuple #[], w3, hrun, rfl, ?_⟩
  have hjm : jb ∉ [mb] := by have := h.m.ne h.j; simp; omega
  have hj3 := h2.j.ext e3 hjm
  have hmo : ∀ i ∈ rowB os, i ∉ [mb] := fun i hi hm => by
    simp at hm; subst hm
    obtain ⟨_, hz⟩ := h.o.1.bk_of hi
    exact h.m.ne hz rfl
  have ho3 := h2.o.ext e3 hmo
  have hbm : b ∉ [mb] := by
    have := (hold mb (by simp [jbs])).2
    simp; omega
  have hk3 := hk2.ext e3 hbm
  have hbo : b ∉ rowB os := fun hi => by
    have := (hold b (by simp [jbs, hi])).2
    omega
  have hrd := Rd.of_bk (i := 0) (vs := [.map (some mb), .slice os.base os.len os.cap]) hj3 rfl
  refine VNN.i (VLd.s os (hrd.fld 1 rfl) ?_)
  refine VCall.i (Delete_spec os _ who b _ w0 w3 ho3 hk3 hbo (by rw [List.length_map]; have := h.le; omega)) ?_
  rintro e w4 ⟨os', rfl, ho4, e4, hro⟩
  refine exW.i1 (t := .sl) os' rfl ?_
  have hjo : jb ∉ rowB os := fun hi => by
    obtain ⟨_, hz⟩ := h.o.1.bk_of hi
    exact hz.neT h.j (by decide) rfl
  have hj4 := hj3.ext e4 hjo
  refine VNN.i ?_
  simp only [add_blk]
  refine VSt.bk hj4 rfl (by simp) fun w5 hk5 e5 => ?_
  have hwr : ∀ k ∈ K, WRep w5 k := fun k hk => by
    have hw := h2.wr k hk
    have n1 : ∀ {q : Nat} {cs : List Value} {t : TypeId}, Bk w2 q cs t → t ≠ 69 → t ≠ 64 → Bk w5 q cs t := fun hq n1 n2 => by
      have q3 := hq.ext e3 (by have := h2.m.ne hq; simp; omega)
      have q4 := q3.ext e4 (fun hi => by
        obtain ⟨_, hz⟩ := ho3.1.bk_of hi
        exact q3.neT hz n1 rfl)
      exact q4.ext e5 (by
        have := q4.neT hj4 n2
        simpa using this)
    exact ⟨n1 hw.w (by decide) (by decide), n1 hw.p (by decide) (by decide), n1 hw.t (by decide) (by decide)⟩
  refine ⟨trivial, ?_, hwr⟩
  have hk5 : Bk w5 jb [.map (some mb), .slice os'.base os'.len os'.cap] 64 := hk5
  have hmb : mb ∉ rowB os := fun hi => by
    obtain ⟨_, hz⟩ := h.o.1.bk_of hi
    exact h.m.ne hz rfl
  have hmj : mb ∉ [jb] := by have := h.m.ne h.j; simpa using this
  have hojb : ∀ i ∈ rowB os', i ∉ [jb] := fun i hi hm => by
    simp at hm; subst hm
    rw [hro] at hi
    exact hjo hi
  have eJ : Ext (jbs jb K mb os) W w5 := ((e02.mono (N := jbs jb K mb os) (by simp)).then e3 (fun i hi _ => by simp at hi; subst hi; simp [jbs])).then e4 (fun i hi _ => by simp [jbs, hi]) |>.then e5 (fun i hi _ => by simp at hi; subst hi; simp [jbs])
  have hsub : ∀ k ∈ dropE K who, k ∈ K := fun k hk => (dropE_mem.1 hk).1
  refine ⟨os', _, ⟨hk5, (hm3.ext e4 hmb).ext e5 hmj, ?_, ?_, Nat.le_trans (List.length_filter_le _ _) h.le, fun k hk => ?_, fun c hc => ?_, fun k hk => hwr k (hsub k hk), h.aj, h.am, fun k hk => h.ak k (hsub k hk), fun k1 h1 k2 h2 => h.dis k1 (hsub k1 h1) k2 (hsub k2 h2), fun k hk => h.ok k (hsub k hk)⟩, eJ, fun b' hb' => .inl ?_⟩
  · rw [dropE_keys]
    exact ho4.ext e5 hojb
  · rw [dropE_keys]
    exact h.nd.filter _
  · obtain ⟨hk, hne⟩ := dropE_mem.1 hk
    show (if who = k.key then none else F k.key) = _
    rw [if_neg (fun e => hne e.symm)]
    exact h.f k hk
  · show (if who = c then none else F c) = none
    by_cases hwc : who = c
    · rw [if_pos hwc]
    · rw [if_neg hwc]
      refine h.f0 c fun k hk e => ?_
      exact hc k (dropE_mem.2 ⟨hk, fun e2 => hwc (e2.symm.trans e)⟩) e
  · unfold jbs at hb' ⊢
    rw [hro] at hb'
    simp only [List.mem_cons, List.mem_append, List.mem_flatMap] at hb' ⊢
    rcases hb' with h1 | h1 | h1 | ⟨k, hk, h1⟩
    · exact .inl h1
    · exact .inr (.inl h1)
    · exact .inr (.inr (.inl h1))
    · exact .inr (.inr (.inr ⟨k, hsub k hk, h1⟩))
end
end Go.Proofs.Ythpbkkjggnejcaa
