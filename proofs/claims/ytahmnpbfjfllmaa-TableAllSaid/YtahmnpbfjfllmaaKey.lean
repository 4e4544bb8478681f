/- Keys of 32 bytes: how they are compared. -/
import Derived.Test.YtahmnpbfjfllmaaR01
import Derived.Test.YtahmnpbfjfllmaaL
import Derived.Lib.BytesEntry
import Derived.Lib.Bytealg
namespace Go.Proofs.Ytahmnpbfjfllmaa
open Go Go.RowKit

/-- A row of bytes as the model's own bytes. -/
def kb (l : List (BitVec 8)) : List UInt8 := Lib.bytesOf (l.map fun c => (c.toNat : Int))
def cmpB (l m : List (BitVec 8)) : Int := Lib.compareBytes (kb l) (kb m)
theorem run_loadB {P : Program} {w : World} {b off : Nat} {l : List (BitVec 8)} (hb : BytesAt w b off l) :
    (Extern.Bytes.loadBytes ⟨b, off, none⟩ l.length .empty).run P w = .ok ⟨(kb l).toArray⟩ w := by
  have h := Lib.run_loadBytesX (P := P) w (l.map fun c => (c.toNat : Int)) ⟨b, off, none⟩ .empty (fun j x hj => by
    rw [List.getElem?_map] at hj
    obtain ⟨c, hc, rfl⟩ := Option.map_eq_some_iff.1 hj
    obtain ⟨hjl, hc'⟩ := List.getElem?_eq_some_iff.1 hc
    rw [Addr.add_lit, hb j hjl, byteAt_lt hjl, hc']
    rfl)
  rw [List.length_map] at h
  rw [h]
  congr 1
  apply ByteArray.ext
  show (#[] : Array UInt8) ++ (kb l).toArray = (kb l).toArray
  simp
theorem run_compare {P : Program} (w : World) (b o c b' o' c' : Nat) (l m : List (BitVec 8)) (h : BytesAt w b o l) (h' : BytesAt w b' o' m) :
    (Extern.BytealgCompare.compare #[.slice (some ⟨b, o, none⟩) l.length c, .slice (some ⟨b', o', none⟩) m.length c']).run P w = .ok (.int .i64 (cmpB l m)) w := by
  change Sem.run P (do pure (goInt (Extern.BytealgCompare.cmp (← Extern.Bytes.loadBytes ⟨b, o, none⟩ l.length .empty) (← Extern.Bytes.loadBytes ⟨b', o', none⟩ m.length .empty)))) w = _
  simp only [Sem.run_bind, run_loadB h, run_loadB h', Result.andThen, Sem.run_pure]
  rw [Lib.cmp_eq]
  rfl
theorem compare_any (w : World) (b o c b' o' c' n : Nat) (l m : List (BitVec 8)) (hl : l.length = n) (hm : m.length = n) (h : BytesAt w b o l) (h' : BytesAt w b' o' m) :
    Calls Try.prog 40 #[.slice (some ⟨b, o, none⟩) n c, .slice (some ⟨b', o', none⟩) n c'] w fun e w' => e = .returned (.int .i64 (cmpB l m)) ∧ w = w' := by
  have hc := run_compare (P := Try.prog) w b o c b' o' c' l m h h'
  rw [hl, hm] at hc
  go_enter Try.func40, Try.ntmps40
  go_wp2
  rw [run_callFunc_extern Try.func54 (by kernel_rfl) (by kernel_rfl) (by kernel_rfl) (e := Extern.BytealgCompare.compare) (by kernel_rfl), hc]
  simp only [Result.andThen]
  rw [Oper.upon_value]
  go_wp2
  go_ret
  exact ⟨rfl, rfl⟩
end Go.Proofs.Ytahmnpbfjfllmaa
