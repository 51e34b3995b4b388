/-
  A part of the proof. No statement of this seat stands here.
-/
import Derived.Test.YtahgmmbmmcaejaaGreatDoorP22
namespace Go.Proofs.YtahgmmbmmcaejaaGreatDoor
open Go Go.Dt
set_option maxRecDepth 100000
noncomputable def mA:Memo:= {f:=4,args:=[],heap:=[.gone,.gone,.gone,.gone,.gone,.gone],val:=boolV true,res:=[.gone,.gone,.gone,.gone,.gone,.gone]}
theorem mA_ok:tab.memo mA:=memo_of_run tab_fits tab_memo (n:=20000) (m:=mA) (M:= .e) mem_e (by kernel_rfl)
noncomputable def M0:MTree:=MTree.e.add mA (pth 4)
theorem M0_ok:∀m,M0.mem m→tab.memo m:=mem_add' mem_e mA_ok
theorem W4(σ:St)(hM:σ.M=M0):W 4 [] σ= .ok (.ret (boolV true),σ):=by
 obtain ⟨n,l,M⟩:=σ
 simp only at hM
 subst hM
 exact callW_ok.2 ⟨1,by kernel_rfl⟩
end Go.Proofs.YtahgmmbmmcaejaaGreatDoor
