/- group's first: its cells. -/
import Derived.Test.YtlckpgahijlmoaaQ35
import Derived.Test.YtlckpgahijlmoaaQ44
set_option maxRecDepth 100000
set_option maxHeartbeats 8000000
namespace Go.Proofs.Ytlckpgahijlmoaa
section
open Go.RowKit Go.Shelf Go.Maps
structure FQ (w W:World)(N:Nat)(a b c d:Int):Prop where
 bel:Below N w W
 c0:W.cell? ⟨N+1+1+1,0,none⟩=some (.int .i64 a)
 c1:W.cell? ⟨N+1+1+1,1,none⟩=some (.int .i64 b)
 c2:W.cell? ⟨N+1+1+1,2,none⟩=some (.int .i64 c)
 c3:W.cell? ⟨N+1+1+1,3,none⟩=some (.int .i64 d)
 r:∀i,i<5→W.cell? ⟨N,i,none⟩=some (.int .i64 0)∧W.frozen? ⟨N,i,none⟩=false
 s:∀i,i<5→W.cell? ⟨N+1,i,none⟩=some (.int .i64 0)∧W.frozen? ⟨N+1,i,none⟩=false
end
end Go.Proofs.Ytlckpgahijlmoaa
