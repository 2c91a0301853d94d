/- Lemmas. No conditions. -/
import Derived.Test.YtpghiabjaglpgaaGreatDoorP3
set_option linter.all false
noncomputable section
namespace Go.Proofs.YtpghiabjaglpgaaGreatDoor
open Go.AI
structure Re where
 c:Bool
 n:Int
structure Ce where
 k:Int
 con:af
 n:Int
 refs:List Re
 nx:Int
structure Fm where
 ex:Int
 en:Int
 dn:List Re
structure To where
 nm:af
 r:Re
inductive Va where
 |mk (con:af) (n:Int) (xs:List Va)
structure Nv where
 nm:af
 v:Va
structure Mc where
 mo:Int
 ex:Int
 en:Int
 vc:Bool
 vn:Int
 fr:List Fm
 ce:List Ce
 to:List To
 bo:Int
 ou:List Nv
 st:Int
def Jy(r:Re):List D:=[.bool r.c,.i r.n]
def jq(c:Ce):List D:=[.i c.k,.str c.con,.i c.n,.row 2 (c.refs.map Jy),.i c.nx]
def AD(f:Fm):List D:=[.i f.ex,.i f.en,.row 2 (f.dn.map Jy)]
def uZ(t:To):List D:=[.str t.nm,.bool t.r.c,.i t.r.n]
mutual
def xB:Va->List D
 |.mk c n xs=>[.str c,.i n,.row 3 (jz xs)]
def jz:List Va->aR
 |[]=>[]
 |v::r=>xB v::jz r
end
def PO(x:Nv):List D:=match x.v with
 |.mk c n xs=>[.str x.nm,.str c,.i n,.row 3 (jz xs)]
abbrev bu(m:Mc):List D:=[.i m.mo,.i m.ex,.i m.en,.bool m.vc,.i m.vn,.row 3 (m.fr.map AD),.row 5 (m.ce.map jq),.row 3 (m.to.map uZ),.i m.bo,.row 4 (m.ou.map PO),.i m.st]
end Go.Proofs.YtpghiabjaglpgaaGreatDoor
