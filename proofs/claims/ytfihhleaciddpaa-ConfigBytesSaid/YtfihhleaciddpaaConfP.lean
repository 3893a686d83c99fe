/-
  Configurations and commands read of bytes. Plain: no program in sight.
-/
import Derived.Test.YtfihhleaciddpaaConfE
import Derived.Test.YtfihhleaciddpaaCodeE
namespace Go.Proofs.Ytfihhleaciddpaa
open Go.RowKit
set_option maxRecDepth 100000

abbrev St := Option (List UInt8)
theorem encC_in {n : Int} (h : 0 ≤ n ∧ n ≤ 2147483647) : encC n = enc n.toNat := by unfold encC; rw [if_pos h]
theorem flag_enc (b : Bool) : enc (if b then 1 else 0) = encC (if b then 1 else 0) := by cases b <;> rfl
theorem count_some {most : Int} {st : St} {n : Int} {t : List UInt8} (h : rCount most st = (n, some t)) : 0 ≤ n ∧ n ≤ 2147483647 ∧ n ≤ most ∧ st = some (encC n ++ t) := by
  cases st with
  | none => rw [rCount_none] at h; simp at h
  | some l =>
    obtain ⟨h1, h2, h3, h4⟩ := only_count h
    exact ⟨h1, h2, h3, by rw [encC_in ⟨h1, h2⟩, h4]⟩
theorem num_some {st : St} {n : Int} {t : List UInt8} (h : rNum st = (n, some t)) : st = some (enc (zz n) ++ t) ∧ (-9223372036854775808 ≤ n ∧ n ≤ 9223372036854775807) := by
  unfold rNum at h
  cases st with
  | none => simp at h
  | some l =>
    simp only [Option.bind_some] at h
    cases hr : rd l with
    | none => rw [hr] at h; simp at h
    | some p =>
      obtain ⟨u, t'⟩ := p
      rw [hr] at h
      simp only [Prod.mk.injEq, Option.some.injEq] at h
      obtain ⟨rfl, rfl⟩ := h
      obtain ⟨hu, hl⟩ := rd_ok hr
      refine ⟨by rw [zz_unzz, hl], ?_⟩
      unfold unzz
      split <;> omega

def rPl (n : Int) (st : St) : Pl × St := (((rCount 2147483647 st).1, (rCount n (rCount 2147483647 st).2).1, (rCount n (rCount n (rCount 2147483647 st).2).2).1), (rCount n (rCount n (rCount 2147483647 st).2).2).2)
def rPls (n : Int) : Nat → St → List Pl × St
  | 0, st => ([], st)
  | k + 1, st => ((rPls n k st).1 ++ [(rPl n (rPls n k st).2).1], (rPl n (rPls n k st).2).2)
def rFls : Nat → St → List Bool × St
  | 0, st => ([], st)
  | k + 1, st => ((rFls k st).1 ++ [(rCount 1 (rFls k st).2).1 == 1], (rCount 1 (rFls k st).2).2)
instance (p : Pl) : Decidable (may p) := by unfold may; infer_instance
def decP (a b : Int) (st : St) : Option CM :=
  if (∀ p ∈ (rPls b a.toNat st).1, may p) ∧ rDone (rFls b.toNat (rPls b a.toNat st).2).2 = true then some ⟨(rPls b a.toNat st).1, (rFls b.toNat (rPls b a.toNat st).2).1⟩ else none
def decI (l : List UInt8) : Option CM :=
  if 1 ≤ (rCount 4 (some l)).1 ∧ (rCount 4 (some l)).1 ≤ 4 ∧ 1 ≤ (rCount 5 (rCount 4 (some l)).2).1 ∧ (rCount 5 (rCount 4 (some l)).2).1 ≤ 5 then
    decP (rCount 4 (some l)).1 (rCount 5 (rCount 4 (some l)).2).1 (rCount 5 (rCount 4 (some l)).2).2
  else none

theorem rPl_enc (n : Int) (hn : n ≤ 5) (p : Pl) (hp : okP n p) (t : List UInt8) : rPl n (some (encC p.1 ++ encC p.2.1 ++ encC p.2.2 ++ t)) = (p, some t) := by
  obtain ⟨_, a, b, c1, c2, d1, d2⟩ := hp
  unfold rPl
  rw [List.append_assoc, List.append_assoc, rCount_enc _ _ a b b]
  simp only
  rw [rCount_enc _ _ c1 (by omega) c2]
  simp only
  rw [rCount_enc _ _ d1 (by omega) d2]
theorem rPls_enc (n : Int) (hn : n ≤ 5) (P : List Pl) (hP : ∀ p ∈ P, okP n p) (t : List UInt8) : ∀ k, k ≤ P.length → rPls n k (some (encP P ++ t)) = (P.take k, some (encP (P.drop k) ++ t))
  | 0, _ => by simp [rPls]
  | k + 1, hk => by
    simp only [rPls]
    rw [rPls_enc n hn P hP t k (by omega)]
    have hd : encP (P.drop k) ++ t = encC (P[k]).1 ++ encC (P[k]).2.1 ++ encC (P[k]).2.2 ++ (encP (P.drop (k + 1)) ++ t) := by
      rw [List.drop_eq_getElem_cons (by omega)]
      unfold encP
      simp only [List.flatMap_cons, List.append_assoc]
    simp only
    rw [hd, rPl_enc n hn _ (hP _ (List.getElem_mem _)), ← List.take_succ_eq_append_getElem (by omega)]
theorem rFls_enc (D : List Bool) (t : List UInt8) : ∀ k, k ≤ D.length → rFls k (some (encD D ++ t)) = (D.take k, some (encD (D.drop k) ++ t))
  | 0, _ => by simp [rFls]
  | k + 1, hk => by
    simp only [rFls]
    rw [rFls_enc D t k (by omega)]
    have hd : encD (D.drop k) ++ t = encC (if D[k] then 1 else 0) ++ (encD (D.drop (k + 1)) ++ t) := by
      rw [List.drop_eq_getElem_cons (by omega)]
      unfold encD
      simp only [List.flatMap_cons, List.append_assoc, flag_enc]
    simp only
    rw [hd, rCount_enc _ _ (by cases D[k] <;> simp) (by cases D[k] <;> simp) (by cases D[k] <;> simp), List.take_succ_eq_append_getElem (by omega)]
    cases D[k] <;> simp
theorem dec_enc {c : CM} (h : c.ok) : decI (encCfg c) = some c := by
  have hp := h.p
  have hd := h.d
  have h1 : rCount 4 (some (encCfg c)) = ((c.P.length : Int), some (encC c.D.length ++ (encP c.P ++ encD c.D))) := by
    unfold encCfg
    rw [List.append_assoc, List.append_assoc, rCount_enc _ _ (by omega) (by omega) (by omega)]
  have h2 : rCount 5 (some (encC c.D.length ++ (encP c.P ++ encD c.D))) = ((c.D.length : Int), some (encP c.P ++ encD c.D)) := by
    rw [rCount_enc _ _ (by omega) (by omega) (by omega)]
  have h3 := rPls_enc c.D.length (by omega) c.P h.all (encD c.D) c.P.length (Nat.le_refl _)
  have h4 := rFls_enc c.D [] c.D.length (Nat.le_refl _)
  rw [List.take_length, List.drop_length] at h3 h4
  rw [List.append_nil] at h4
  have h3' : rPls c.D.length c.P.length (some (encP c.P ++ encD c.D)) = (c.P, some (encD c.D)) := by simpa [encP] using h3
  have h4' : rFls c.D.length (some (encD c.D)) = (c.D, some []) := by simpa [encD] using h4
  unfold decI
  rw [h1]
  simp only
  rw [h2]
  simp only
  rw [if_pos (by omega)]
  unfold decP
  rw [Int.toNat_natCast, Int.toNat_natCast, h3']
  simp only
  rw [h4', if_pos ⟨fun p hp => (h.all p hp).1, rfl⟩]

theorem rPl_some {n : Int} {st : St} {p : Pl} {t : List UInt8} (h : rPl n st = (p, some t)) : (0 ≤ p.1 ∧ p.1 ≤ 2147483647 ∧ 0 ≤ p.2.1 ∧ p.2.1 ≤ n ∧ 0 ≤ p.2.2 ∧ p.2.2 ≤ n) ∧ st = some (encC p.1 ++ encC p.2.1 ++ encC p.2.2 ++ t) := by
  unfold rPl at h
  generalize ha : rCount 2147483647 st = a at h
  generalize hb : rCount n a.2 = b at h
  generalize hc : rCount n b.2 = c at h
  obtain ⟨a1, a2⟩ := a
  obtain ⟨b1, b2⟩ := b
  obtain ⟨c1, c2⟩ := c
  simp only [Prod.mk.injEq] at h hb hc
  obtain ⟨rfl, rfl⟩ := h
  obtain ⟨g1, g2, g3, rfl⟩ := count_some hc
  obtain ⟨f1, f2, f3, rfl⟩ := count_some hb
  obtain ⟨e1, e2, e3, rfl⟩ := count_some ha
  refine ⟨⟨e1, e2, f1, f3, g1, g3⟩, ?_⟩
  simp
theorem rPls_some {n : Int} : ∀ {k : Nat} {st : St} {P : List Pl} {t : List UInt8}, rPls n k st = (P, some t) → P.length = k ∧ (∀ p ∈ P, 0 ≤ p.1 ∧ p.1 ≤ 2147483647 ∧ 0 ≤ p.2.1 ∧ p.2.1 ≤ n ∧ 0 ≤ p.2.2 ∧ p.2.2 ≤ n) ∧ st = some (encP P ++ t)
  | 0, st, P, t, h => by
    simp only [rPls, Prod.mk.injEq] at h
    obtain ⟨rfl, rfl⟩ := h
    simp [encP]
  | k + 1, st, P, t, h => by
    simp only [rPls] at h
    generalize hx : rPls n k st = x at h
    obtain ⟨x1, x2⟩ := x
    generalize hy : rPl n x2 = y at h
    obtain ⟨y1, y2⟩ := y
    simp only [hy, Prod.mk.injEq] at h
    obtain ⟨rfl, rfl⟩ := h
    obtain ⟨g1, rfl⟩ := rPl_some hy
    obtain ⟨f1, f2, rfl⟩ := rPls_some hx
    refine ⟨by simp [f1], ?_, ?_⟩
    · intro p hp
      rcases List.mem_append.1 hp with hp | hp
      · exact f2 p hp
      · rw [List.mem_singleton.1 hp]; exact g1
    · unfold encP; simp
theorem rFls_some : ∀ {k : Nat} {st : St} {D : List Bool} {t : List UInt8}, rFls k st = (D, some t) → D.length = k ∧ st = some (encD D ++ t)
  | 0, st, D, t, h => by
    simp only [rFls, Prod.mk.injEq] at h
    obtain ⟨rfl, rfl⟩ := h
    simp [encD]
  | k + 1, st, D, t, h => by
    simp only [rFls] at h
    generalize hx : rFls k st = x at h
    obtain ⟨x1, x2⟩ := x
    generalize hy : rCount 1 x2 = y at h
    obtain ⟨y1, y2⟩ := y
    simp only [hy, Prod.mk.injEq] at h
    obtain ⟨rfl, rfl⟩ := h
    obtain ⟨g1, g2, g3, rfl⟩ := count_some hy
    obtain ⟨f1, rfl⟩ := rFls_some hx
    refine ⟨by simp [f1], ?_⟩
    have : encC y1 = enc (if (y1 == 1) = true then 1 else 0) := by
      have h01 : y1 = 0 ∨ y1 = 1 := by omega
      rcases h01 with rfl | rfl <;> rfl
    unfold encD
    rw [this]; simp
theorem decP_some {a b : Int} {st : St} {c : CM} (ha : 1 ≤ a ∧ a ≤ 4) (hb : 1 ≤ b ∧ b ≤ 5) (h : decP a b st = some c) : c.ok ∧ (c.P.length : Int) = a ∧ (c.D.length : Int) = b ∧ st = some (encP c.P ++ encD c.D) := by
  unfold decP at h
  split at h
  · rename_i hc
    obtain ⟨hm, hd⟩ := hc
    cases h
    generalize hx : rPls b a.toNat st = x at hm hd ⊢
    obtain ⟨P, x2⟩ := x
    simp only at hm hd ⊢
    generalize hy : rFls b.toNat x2 = y at hd ⊢
    obtain ⟨D, y2⟩ := y
    simp only at hd ⊢
    rw [rDone_iff hd] at hy
    obtain ⟨g1, rfl⟩ := rFls_some hy
    obtain ⟨f1, f2, rfl⟩ := rPls_some hx
    refine ⟨⟨(by first | omega | (simp only; omega)), (by first | omega | (simp only; omega)), fun p hp => ?_⟩, (by first | omega | (simp only; omega)), (by first | omega | (simp only; omega)), by simp⟩
    have := f2 p hp
    refine ⟨hm p hp, this.1, this.2.1, this.2.2.1, ?_, this.2.2.2.2.1, ?_⟩
    · show p.2.1 ≤ (D.length : Int); omega
    · show p.2.2 ≤ (D.length : Int); omega
  · cases h
theorem enc_dec {l : List UInt8} {c : CM} (h : decI l = some c) : c.ok ∧ encCfg c = l := by
  unfold decI at h
  split at h
  · rename_i hr
    obtain ⟨hok, ha, hb, hst⟩ := decP_some ⟨hr.1, hr.2.1⟩ ⟨hr.2.2.1, hr.2.2.2⟩ h
    have h5 : rCount 5 (rCount 4 (some l)).2 = ((rCount 5 (rCount 4 (some l)).2).1, some (encP c.P ++ encD c.D)) := by rw [← hst]
    obtain ⟨_, _, _, h4⟩ := count_some h5
    have h4' : rCount 4 (some l) = ((rCount 4 (some l)).1, some (encC (rCount 5 (rCount 4 (some l)).2).1 ++ (encP c.P ++ encD c.D))) := by rw [← h4]
    obtain ⟨_, _, _, h3⟩ := count_some h4'
    refine ⟨hok, ?_⟩
    have h3' := Option.some.inj h3
    unfold encCfg
    rw [ha, hb, List.append_assoc, List.append_assoc]
    exact h3'.symm
  · cases h

/-! commands -/
def encX (x : Cmd) : List UInt8 := encC x.kind ++ enc (zz x.shard) ++ enc (zz x.store) ++ enc (zz x.epoch)
def okX (x : Cmd) : Prop := (0 ≤ x.kind ∧ x.kind ≤ 255) ∧ (-9223372036854775808 ≤ x.shard ∧ x.shard ≤ 9223372036854775807) ∧ (-9223372036854775808 ≤ x.store ∧ x.store ≤ 9223372036854775807) ∧ (-9223372036854775808 ≤ x.epoch ∧ x.epoch ≤ 9223372036854775807)
def rX (st : St) : Cmd × St :=
  (⟨(rCount 255 st).1, (rNum (rCount 255 st).2).1, (rNum (rNum (rCount 255 st).2).2).1, (rNum (rNum (rNum (rCount 255 st).2).2).2).1⟩, (rNum (rNum (rNum (rCount 255 st).2).2).2).2)
def decX (l : List UInt8) : Option Cmd := if rDone (rX (some l)).2 = true then some (rX (some l)).1 else none
theorem decX_enc {x : Cmd} (h : okX x) : decX (encX x) = some x := by
  obtain ⟨h1, h2, h3, h4⟩ := h
  have : rX (some (encX x)) = (x, some []) := by
    unfold rX encX
    rw [List.append_assoc, List.append_assoc, rCount_enc _ _ h1.1 (by omega) h1.2]
    simp only
    rw [rNum_enc _ h2]
    simp only
    rw [rNum_enc _ h3]
    simp only
    have := rNum_enc _ h4 []
    rw [List.append_nil] at this
    rw [this]
  unfold decX
  rw [this]
  rfl
theorem encX_dec {l : List UInt8} {x : Cmd} (h : decX l = some x) : okX x ∧ encX x = l := by
  unfold decX at h
  split at h
  · rename_i hd
    cases h
    have hd := rDone_iff hd
    unfold rX at hd ⊢
    simp only at hd ⊢
    generalize ha : rCount 255 (some l) = a at *
    generalize hb : rNum a.2 = b at *
    generalize hc : rNum b.2 = c at *
    generalize he : rNum c.2 = e at *
    obtain ⟨a1, a2⟩ := a
    obtain ⟨b1, b2⟩ := b
    obtain ⟨c1, c2⟩ := c
    obtain ⟨e1, e2⟩ := e
    simp only at hb hc he hd ⊢
    subst hd
    obtain ⟨rfl, g1⟩ := num_some he
    obtain ⟨rfl, g2⟩ := num_some hc
    obtain ⟨rfl, g3⟩ := num_some hb
    obtain ⟨f1, f2, f3, f4⟩ := count_some ha
    cases f4
    refine ⟨⟨⟨f1, f3⟩, g3, g2, g1⟩, ?_⟩
    unfold encX
    simp
  · cases h
end Go.Proofs.Ytfihhleaciddpaa
