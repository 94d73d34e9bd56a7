/-
 Layer 22 (slots): copies,as plain mathematics.
 Conditions: of each law as it says.
-/
import Derived.Test.YtioojmlhmhgeeaaS22d
namespace C22
def byteI (b:Int):UInt8:=UInt8.ofNat (b % 256).toNat
def qb (q:Int):List UInt8:=[byteI (q / 16777216),byteI (q / 65536),byteI (q / 256),byteI q]
end C22
