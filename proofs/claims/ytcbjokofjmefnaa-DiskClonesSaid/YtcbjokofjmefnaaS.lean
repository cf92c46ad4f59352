/- The document's example, which stands at the head of all statements of the disk: it is answered as the document says. -/
import Derived.Test.YtcbjokofjmefnaaC
namespace Go.Proofs.Ytcbjokofjmefnaa
open Go.RowKit

namespace Shown
def kA : ByteArray := ⟨#[97]⟩
def xy : ByteArray := ⟨#[120, 121]⟩
def z : ByteArray := ⟨#[122]⟩
def q : ByteArray := ⟨#[113]⟩
def xyz : ByteArray := ⟨#[120, 121, 122]⟩
def xyq : ByteArray := ⟨#[120, 121, 113]⟩
def d0 : DiskV := ⟨[], -1, false⟩
def d1 : DiskV := ⟨[(kA, ⟨xy, 0⟩)], -1, false⟩
def d2 : DiskV := ⟨[(kA, ⟨xy, 2⟩)], -1, false⟩
def d3 : DiskV := ⟨[(kA, ⟨xyz, 2⟩)], -1, false⟩
def d5 : DiskV := ⟨[(kA, ⟨xy, 2⟩)], 1, false⟩
def d6 : DiskV := ⟨[(kA, ⟨xyq, 2⟩)], 0, false⟩
def d7 : DiskV := ⟨[(kA, ⟨xyq, 2⟩)], 0, true⟩
theorem ok0 : DOk d0 := ⟨by decide, by simp [d0]⟩
theorem a0 : apE d0 kA xy = 0 ∧ apD d0 kA xy = d1 := by constructor <;> rfl
theorem s1 : syE d1 kA = 0 ∧ syD d1 kA = d2 := by constructor <;> rfl
theorem a2 : apE d2 kA z = 0 ∧ apD d2 kA z = d3 := by constructor <;> rfl
theorem c3 : crD d3 [] = d2 := by
  have h : skeys d3.files = [kA] := by simp [skeys, d3, kA]
  unfold crD
  rw [h]
  rfl
theorem p2 : poD d2 1 = d5 := rfl
theorem a5 : apE d5 kA q = 0 ∧ apD d5 kA q = d6 := by constructor <;> rfl
theorem s6 : syE d6 kA = 7 ∧ syD d6 kA = d7 := by constructor <;> rfl
theorem r2 : findE d2 kA = 0 ∧ (findF d2 kA).b = xy := by constructor <;> rfl
theorem xyL : xy.toList = [120, 121] := by rw [ByteArray.toList_eq]; rfl
theorem r7 : findE d7 kA = 7 := rfl
theorem okOf (b : ByteArray) (s p : Int) (o : Bool) (h : b.size ≤ 1048576 ∧ 0 ≤ s ∧ s ≤ b.size) : DOk ⟨[(kA, ⟨b, s⟩)], p, o⟩ :=
  ⟨by show 1 ≤ 256; omega, fun x hx => by
    have : x = (kA, ⟨b, s⟩) := by simpa using hx
    subst this
    exact ⟨h.1, h.2.1, h.2.2, by show 1 ≤ kA.size; decide, by show kA.size ≤ 32; decide⟩⟩
end Shown
open Shown
theorem shown_any (w : World) : Calls Try.prog 9 #[] w fun e w' => e = .returned (.bool true) ∧ Below w.heap.size w w' := by
  go_enter Try.func9, Try.ntmps9
  go_wp2_with fail
  refine (new_any w).mono ?_
  rintro e w1 ⟨sb, mb, rfl, h1, b1, l1, l2⟩
  have hO : ∀ k, Own sb mb k → w.heap.size ≤ k := fun k hk => by rcases hk with hk | hk <;> omega
  have HO := Lib.hid hO
  have B1 := Lib.hid (But.of (F := Own sb mb) b1)
  clear b1 hO l1 l2
  go_wp2_with fail
  refine (append_any sb mb d0 kA xy w1 h1 ok0 (by decide)).mono ?_
  rintro e w2 ⟨rfl, h2, b2⟩
  rw [a0.1]
  rw [a0.2] at h2
  have B2 := Lib.hid (B1.out.trans b2)
  clear b2 h1
  go_wp2_with fail
  refine (sync_any sb mb d1 kA w2 h2).mono ?_
  rintro e w3 ⟨rfl, h3, b3⟩
  rw [s1.1]
  rw [s1.2] at h3
  have B3 := Lib.hid (B2.out.trans b3)
  clear b3 h2
  go_wp2_with fail
  refine (append_any sb mb d2 kA z w3 h3 (okOf _ _ _ _ (by decide)) (by decide)).mono ?_
  rintro e w4 ⟨rfl, h4, b4⟩
  rw [a2.1]
  rw [a2.2] at h4
  have B4 := Lib.hid (B3.out.trans b4)
  clear b4 h3
  go_wp2_with fail
  refine (crash_any sb mb d3 (.slice none 0 0) [] w4 h4 (okOf _ _ _ _ (by decide)) (fun W _ => SlR.nil W)).mono ?_
  rintro e w5 ⟨rfl, h5, b5⟩
  rw [c3] at h5
  have B5 := Lib.hid (B4.out.trans b5)
  clear b5 h4
  go_wp2_with fail
  refine (read_any sb mb d2 kA w5 h5).mono ?_
  rintro e w6 ⟨rfl, b6⟩
  rw [r2.1, r2.2]
  have h6 := h5.below b6
  have B6 := Lib.hid (B5.out.trans (But.of b6))
  clear b6 h5
  go_wp2_with fail
  refine (power_any sb mb d2 1 w6 h6 (by omega)).mono ?_
  rintro e w7 ⟨rfl, h7, b7⟩
  rw [p2] at h7
  have B7 := Lib.hid (B6.out.trans b7)
  clear b7 h6
  go_wp2_with fail
  refine (append_any sb mb d5 kA q w7 h7 (okOf _ _ _ _ (by decide)) (by decide)).mono ?_
  rintro e w8 ⟨rfl, h8, b8⟩
  rw [a5.1]
  rw [a5.2] at h8
  have B8 := Lib.hid (B7.out.trans b8)
  clear b8 h7
  go_wp2_with fail
  refine (sync_any sb mb d6 kA w8 h8).mono ?_
  rintro e w9 ⟨rfl, h9, b9⟩
  rw [s6.1]
  rw [s6.2] at h9
  have B9 := Lib.hid (B8.out.trans b9)
  clear b9 h8
  go_wp2_with fail
  refine (read_any sb mb d7 kA w9 h9).mono ?_
  rintro e w10 ⟨rfl, b10⟩
  rw [r7]
  have h10 := h9.below b10
  have B10 := Lib.hid (B9.out.trans (But.of b10))
  clear b10 h9
  have hxy := xyL
  go_wp2_with fail
  refine (off_any sb mb d7 w10 h10).mono ?_
  rintro e w11 ⟨rfl, rfl⟩
  go_wp2
  go_ret
  exact ⟨rfl, B10.out.below (Nat.le_refl _) HO.out⟩
end Go.Proofs.Ytcbjokofjmefnaa
