/- For every number of blocks DeviceNews returns true. No condition. -/
import Derived.Test.YtdlalmbnkcadfaaM25
namespace Go.Proofs.Ytdlalmbnkcadfaa

theorem deviceNews : Rows.DeviceNewsSaid := news_said fun n w => news_of awake_any n w
#print axioms deviceNews
end Go.Proofs.Ytdlalmbnkcadfaa
