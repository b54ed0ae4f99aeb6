/-
  The numbers under which this dump holds sync.Mutex's functions and types. No condition.
-/
import Derived.Test.YtnlgfccjohhcmaaGreatDoorProg
import Derived.Conc.MuLone
import Derived.KernelRfl
namespace Go.Proofs
abbrev Tryz.muLink : Go.Conc.Locks.MuLink := { lock := 21, unlock := 22, ilock := 31, iunlock := 32, lockSlow := 46, unlockSlow := 49, disable := 42, enable := 44, acquire := 45, relMerge := 47, cas32 := 43, add32 := 48, tMutex := 72, tIMutex := 70, tPMutex := 108, tPIMutex := 126, tPI32 := 128, tUP := 130, tNoCopy := 68, tU32 := 36 }
theorem Tryz.muLib : Go.Conc.Locks.MuLib Tryz.prog Tryz.muLink :=
  ⟨Tryz.func21, Tryz.func22, Tryz.func31, Tryz.func32, Tryz.func42, Tryz.func44, Tryz.func45, Tryz.func47, Tryz.func43, Tryz.func48, Tryz.underlying70, Tryz.runUnderlying70, Tryz.sizeOf70, Tryz.isAgg70, Tryz.zeroValue70, Tryz.underlying72, Tryz.runUnderlying72, Tryz.sizeOf72, Tryz.isAgg72, Tryz.zeroValue72, Tryz.underlying108, Tryz.runUnderlying108, Tryz.sizeOf108, Tryz.isAgg108, Tryz.zeroValue108, Tryz.underlying126, Tryz.runUnderlying126, Tryz.sizeOf126, Tryz.isAgg126, Tryz.zeroValue126, Tryz.underlying128, Tryz.runUnderlying128, Tryz.sizeOf128, Tryz.isAgg128, Tryz.zeroValue128, Tryz.underlying130, Tryz.runUnderlying130, Tryz.sizeOf130, Tryz.isAgg130, Tryz.zeroValue130, Tryz.underlying68, Tryz.runUnderlying68, Tryz.sizeOf68, Tryz.isAgg68, Tryz.zeroValue68, Tryz.underlying21, Tryz.runUnderlying21, Tryz.sizeOf21, Tryz.isAgg21, Tryz.zeroValue21, (by kernel_rfl)⟩
end Go.Proofs
