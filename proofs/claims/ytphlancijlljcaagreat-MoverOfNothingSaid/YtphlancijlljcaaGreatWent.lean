/- Keys that go by an Access are not too long, and few: for each of the engines. -/
import Derived.Test.YtphlancijlljcaaGreatTiny6
import Derived.Test.YtphlancijlljcaaGreatLirsD
import Derived.Test.YtphlancijlljcaaGreatG8
set_option linter.unusedVariables false
set_option linter.unusedSimpArgs false
namespace Go.Proofs.YtphlancijlljcaaGreat
open Go.RowKit
def Went (l : List ByteArray) : Prop := l.length ≤ 100 ∧ ∀ k, k ∈ l → k.size ≤ maxLen
theorem Went.nil : Went [] := ⟨by simp, by simp⟩
theorem Went.one {k : ByteArray} (h : k.size ≤ maxLen) : Went [k] := ⟨by simp, by intro x hx; simp at hx; subst hx; exact h⟩
theorem Twoq.Inv.went {s : Twoq} (h : s.Inv) (key : ByteArray) (hk : key.size ≤ maxLen) : Went (s.access key).2.1 := by
 have he : ∀ t : Twoq, RNd 3 t.K → Went t.reclaim.1 := by
  intro t ht
  unfold Twoq.reclaim
  split
  ·exact Went.nil
  ·refine Went.one ?_
   unfold Twoq.evict
   split
   ·exact Nat.zero_le _
   ·split
    ·exact oldest_sz ht 2
    ·exact oldest_sz ht 0
 unfold Twoq.access
 split
 ·exact Went.nil
 ·split
  ·exact Went.nil
  ·split
   ·exact he _ (h.nd.drop _)
   ·exact he _ h.nd
theorem arcRepl_went {K : Rows} (h : RNd 4 K) (p c : Nat) (a : Bool) : Went (arcRepl K p c a).1 := by
 unfold arcRepl
 split
 ·exact Went.nil
 ·exact Went.one (oldest_sz h _)
theorem Arc.Inv.went {s : Arc} (h : s.Inv) (key : ByteArray) (hk : key.size ≤ maxLen) : Went (s.access key).2.1 := by
 unfold Arc.access
 split
 ·exact Went.nil
 ·split
  ·exact arcRepl_went h.nd _ _ _
  ·split
   ·exact arcRepl_went h.nd _ _ _
   ·simp only
    unfold arcComes
    split
    ·exact arcRepl_went (h.nd.drop _) _ _ _
    ·split
     ·exact Went.one (oldest_sz h.nd _)
     ·split
      ·exact Went.nil
      ·split
       ·exact arcRepl_went (h.nd.drop _) _ _ _
       ·exact arcRepl_went h.nd _ _ _
theorem Tiny.Inv.went {s : Tiny} (h : s.Inv) (key : ByteArray) (hk : key.size ≤ maxLen) : Went (s.access key).2.1 := by
 have hn := (h.notes key).1
 unfold Tiny.access
 simp only
 generalize s.notes key = s at hn ⊢
 split
 ·exact Went.nil
 ·split
  ·exact Went.nil
  ·simp only
   have hnd := hn.nd.push (r := 0) (by omega) key hk
   unfold Tiny.fits
   split
   ·unfold Tiny.admits
    split
    ·exact Went.nil
    ·split
     ·exact Went.one (oldest_sz hnd _)
     ·exact Went.one (oldest_sz hnd _)
   ·exact Went.nil
theorem s3Small_sz (g : Nat) : ∀ (f : Nat) (K : Rows) (C : Cnt), RNd 3 K → RNd 3 (s3Small g f K C).2.1 ∧ ∀ k, (s3Small g f K C).1 = some k → k.size ≤ maxLen
 | 0, K, C, h => ⟨h, by intro k hk; cases hk⟩
 | f + 1, K, C, h => by
  unfold s3Small
  split
  ·exact ⟨h, by intro k hk; cases hk⟩
  ·split
   ·exact s3Small_sz g f _ _ (h.push (by omega) _ (oldest_sz h 0))
   ·refine ⟨(h.push (by omega) _ (oldest_sz h 0)).trim _ _, ?_⟩
    intro k hk
    simp at hk
    subst hk
    exact oldest_sz h 0
theorem s3Main_sz : ∀ (f : Nat) (K : Rows) (C : Cnt), RNd 3 K → (s3Main f K C).1.size ≤ maxLen
 | 0, K, C, h => Nat.zero_le _
 | f + 1, K, C, h => by
  unfold s3Main
  split
  ·exact oldest_sz h 1
  ·exact s3Main_sz f _ _ (h.push (by omega) _ (oldest_sz h 1))
theorem S3.Inv.went {s : S3} (h : s.Inv) (key : ByteArray) (hk : key.size ≤ maxLen) : Went (s.access key).2.1 := by
 unfold S3.access
 split
 ·exact Went.nil
 ·simp only
  unfold S3.room
  split
  ·exact Went.nil
  ·refine Went.one ?_
   unfold S3.evict
   split
   ·exact Nat.zero_le _
   ·split
    ·obtain ⟨h1, h2⟩ := s3Small_sz s.ghosts ((s.K 0).length + 1) s.K s.C h.ci.nd
     simp only
     cases hr : (s3Small s.ghosts ((s.K 0).length + 1) s.K s.C).1 with
     | some k => exact h2 k hr
     | none => exact s3Main_sz _ _ _ h1
    ·exact s3Main_sz _ _ _ h.ci.nd
theorem Lirs.Inv.went {s : Lirs} (h : s.Inv) (key : ByteArray) (hk : key.size ≤ maxLen) : Went (s.access key).2.1 := by
 unfold Lirs.access
 split
 ·exact Went.nil
 ·split
  ·exact Went.nil
  ·simp only
   unfold Lirs.room
   split
   ·exact Went.nil
   ·refine Went.one ?_
    unfold Lirs.evict
    split
    ·exact Nat.zero_le _
    ·rename_i hl
     obtain ⟨a1, a2, _⟩ := ready_inv h hl
     simp only
     cases hq : s.ready.Q with
     | nil => exact absurd hq a2
     | cons k q => exact a1.qz k (by rw [hq]; simp)
end Go.Proofs.YtphlancijlljcaaGreat
