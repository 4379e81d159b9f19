import Derived.Test.YtibadaomjlkoaaaGb
import Derived.Test.YtibadaomjlkoaaaAb22
set_option linter.unusedVariables false
set_option linter.unusedSimpArgs false
open Go.RowKit
namespace Go.Proofs.Ytibadaomjlkoaaa
set_option maxRecDepth 10000
section
variable{M:AH}{K Kp:AV→AH→Prop}
theorem G5 {i g n0 c0 c a:Nat}{own:Bool}{row:List Bool}{n v e:Int}{a':Nat}(hi:M[i]?=some (.one own g (.ax row c)))(hn:n0=row.length)(hl:row.length≤1000000000)(ha:a≤row.length)(hc:row.length≤c0∧c0≤c)(hp:kn row a n=(v,a',e))
 (h:K (.aE [.int .u32 v,.int .i64 (a':Int),.int .i64 e]) M):
 aa Try.prog 51 [.sl i g 0 n0 c0,.int .i64 a,.int .i64 n] M K Kp:=by
 subst hn
 refine aa.lift [.cP i g 0] (IH (row:=row) (a:=a) (n:=n) (c0:=c0) (c:=c) (K:=fun r M=>r=.aE [.int .u32 v,.int .i64 (a':Int),.int .i64 e]∧M=[.one false 0 (.ax row c)]) (Kp:=fun _ _=>False) hl ha hc (by rw[hp];exact⟨rfl,rfl⟩)) rfl rfl ⟨⟨_,_,_,rfl,ao hi,ZK (Nat.le_refl _)⟩,trivial⟩ ⟨trivial,trivial⟩ ?_ (fun _ _ h=>h.elim)
 rintro r M' ⟨rfl,rfl⟩
 refine⟨⟨rfl,rfl⟩,?_⟩
 rw[←List.append_nil M]at h
 exact h
end
end Go.Proofs.Ytibadaomjlkoaaa
